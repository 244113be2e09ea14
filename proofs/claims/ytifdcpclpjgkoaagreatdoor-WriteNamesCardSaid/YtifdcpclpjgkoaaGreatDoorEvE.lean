/-
  What is proved here: what the evaluator says of a function without arguments holds of the machine. Conditions: none.
-/
import Derived.Test.YtifdcpclpjgkoaaGreatDoorEvD
import Derived.Lib.Bytealg
set_option linter.unusedVariables false
set_option linter.unusedSimpArgs false
noncomputable section
namespace Go.Proofs.YtifdcpclpjgkoaaGreatDoor.Ev

/-! calls that are joined -/
mutual
theorem VRel.back {ρ ρ' : Emb} (s : Sub ρ ρ') : ∀ (a : AV) (v0 v : Value), VRel ρ a v0 → VRel ρ' a v → VRel ρ a v
  | .poison, _, _, _, _ => by simp [VRel]
  | .bool b, _, v, _, h => by simp only [VRel] at *; exact h
  | .int k n, _, v, _, h => by simp only [VRel] at *; exact h
  | .str x, _, v, _, h => by simp only [VRel] at *; exact h
  | .nilp, _, v, _, h => by simp only [VRel] at *; exact h
  | .ptr id off, _, v, h0, h => by
    simp only [VRel] at *
    obtain ⟨e0, b0, _⟩ := h0
    obtain ⟨e, b, r⟩ := h
    rw [s _ _ b0] at b; injection b with b; subst b
    exact ⟨_, b0, r⟩
  | .nils, _, v, _, h => by simp only [VRel] at *; exact h
  | .slice id off len (some c), _, v, h0, h => by
    simp only [VRel] at *
    obtain ⟨e0, _, b0, _⟩ := h0
    obtain ⟨e, o, b, r⟩ := h
    rw [s _ _ b0] at b; injection b with b; subst b
    exact ⟨_, o, b0, r⟩
  | .slice id off len none, _, v, h0, h => by
    simp only [VRel] at *
    obtain ⟨e0, _, _, b0, _⟩ := h0
    obtain ⟨e, o, c, b, r⟩ := h
    rw [s _ _ b0] at b; injection b with b; subst b
    exact ⟨_, o, c, b0, r⟩
  | .nilm, _, v, _, h => by simp only [VRel] at *; exact h
  | .map id, _, v, h0, h => by
    simp only [VRel] at *
    obtain ⟨e0, b0, _⟩ := h0
    obtain ⟨e, b, r⟩ := h
    rw [s _ _ b0] at b; injection b with b; subst b
    exact ⟨_, b0, r⟩
  | .func (.func f) a b, _, v, h0, h => by
    simp only [VRel] at *
    obtain ⟨x0, y0, _, p0, q0⟩ := h0
    obtain ⟨x, y, r, p, q⟩ := h
    exact ⟨x, y, r, VRels.back s _ _ _ p0 p, VRels.back s _ _ _ q0 q⟩
  | .func (.yield l) a b, _, v, h0, h => by
    simp only [VRel] at *
    obtain ⟨e0, b0, _⟩ := h0
    obtain ⟨e, b, r⟩ := h
    rw [s _ _ b0] at b; injection b with b; subst b
    exact ⟨_, b0, r⟩
  | .nilf, _, v, _, h => by simp only [VRel] at *; exact h
  | .iface t x, _, v, h0, h => by
    simp only [VRel] at *
    obtain ⟨u0, _, p0⟩ := h0
    obtain ⟨u, r, p⟩ := h
    exact ⟨u, r, VRel.back s _ _ _ p0 p⟩
  | .nili, _, v, _, h => by simp only [VRel] at *; exact h
  | .agg l, _, v, h0, h => by
    simp only [VRel] at *
    obtain ⟨us, _, p0, _⟩ := h0
    obtain ⟨vs, r, p, q⟩ := h
    exact ⟨vs, r, VRels.back s _ _ _ p0 p, q⟩
  | .tuple l, _, v, h0, h => by
    simp only [VRel] at *
    obtain ⟨us, _, p0⟩ := h0
    obtain ⟨vs, r, p⟩ := h
    exact ⟨vs, r, VRels.back s _ _ _ p0 p⟩
theorem VRels.back {ρ ρ' : Emb} (s : Sub ρ ρ') : ∀ (l : List AV) (us vs : List Value), VRels ρ l us → VRels ρ' l vs → VRels ρ l vs
  | [], _, vs, _, h => by simp only [VRels] at *; exact h
  | a :: l, _, vs, h0, h => by
    simp only [VRels] at *
    obtain ⟨v0, ws0, _, p0, q0⟩ := h0
    obtain ⟨v, ws, r, p, q⟩ := h
    exact ⟨v, ws, r, VRel.back s _ _ _ p0 p, VRels.back s _ _ _ q0 q⟩
end
theorem MRels.back {ρ ρ' : Emb} (s : Sub ρ ρ') : ∀ (l : List (AV × AV × Nat)) (m0 m : List MapEntry), MRels ρ l m0 → MRels ρ' l m → MRels ρ l m
  | [], _, m, _, h => by simp only [MRels] at *; exact h
  | (k, v, b) :: l, _, m, h0, h => by
    simp only [MRels] at *
    obtain ⟨x0, ys0, _, p0, q0, _, u0⟩ := h0
    obtain ⟨x, ys, r, p, q, t, u⟩ := h
    exact ⟨x, ys, r, p0.back s _ _ _ p, q0.back s _ _ _ q, t, MRels.back s _ _ _ u0 u⟩
theorem ORel.back {P : Program} {ρ ρ' : Emb} (s : Sub ρ ρ') {e : Ext} {x0 x : Option Obj} : ∀ {o : AObj}, ORel P ρ e x0 o → ORel P ρ' e x o → ORel P ρ e x o
  | .none, _, _ => trivial
  | .arr cs elem sz p, h0, h => by
    obtain ⟨c0, _, _, _, _, b⟩ := h0
    obtain ⟨c, a1, a2, a3, a4, a6⟩ := h
    refine ⟨c, a1, a2, a3, a4, fun i a hi => ?_⟩
    obtain ⟨v0, _, t0, _⟩ := b i a hi
    obtain ⟨v, r, t, u⟩ := a6 i a hi
    exact ⟨v, r, VRel.back s _ _ _ t0 t, u⟩
  | .map es clock, h0, h => by
    obtain ⟨_, es0, _, b⟩ := h0
    obtain ⟨a0, es', a1, a2⟩ := h
    exact ⟨a0, es', a1, MRels.back s _ _ _ b a2⟩
  | .mapIter m since seen stepped, h0, h => by
    obtain ⟨_, m0, _, b⟩ := h0
    obtain ⟨a0, m', a1, a2⟩ := h
    refine ⟨a0, m', a1, ?_⟩
    cases m with
    | none => exact a2
    | some id =>
      obtain ⟨em0, c1, _⟩ := b
      obtain ⟨em, b1, b2⟩ := a2
      rw [s _ _ c1] at b1; injection b1 with b1; subst b1
      exact ⟨_, c1, b2⟩
  | .loop st pending tm ps a b, h0, h => by
    obtain ⟨l0, _, _, _, _, _, _, c, _⟩ := h0
    obtain ⟨l, a1, a2, a3, a4, a5, a6, a7, a8⟩ := h
    exact ⟨l, a1, a2, a3, a4, a5, a6, fun t => VRel.back s _ _ _ (c t) (a7 t), a8⟩
  | .deferred, _, h => h

section
variable {P : Program} {ρ : Emb} {h : H} {w : World}
theorem WRel.guard (r : WRel P ρ h w) : WRel P ρ h.guard w := ⟨r.dom, r.obj, r.sep, Nat.le_refl _, r.pos, r.peer⟩
/-- what was there is as it was -/
theorem Post.back (W : WRel P ρ h w) {ρ' : Emb} {h' : H} {w' : World} (p : Post P ρ h.guard w ρ' h' w') : Post P ρ h w ρ h w' := by
  refine ⟨Sub.refl ρ, fun _ _ h => .inl h, ⟨fun i e he => ?_, fun i e he => ?_, W.sep, W.low, W.pos, W.peer⟩, p.keep, fun _ h => .inl h, rfl, fun _ _ => rfl, Nat.le_refl _, fun _ _ _ => rfl⟩
  · have := W.dom i e he
    have := p.keep.size
    omega
  · have h1 := p.rel.obj i e (p.sub i e he)
    rw [p.old i (W.dom i e he).2.1] at h1
    exact (W.obj i e he).back p.sub h1

theorem flat_rel {ρ ρ' : Emb} {a : AV} {v : Value} (hf : flat a = true) (hv : VRel ρ a v) : VRel ρ' a v := by
  cases a <;> first | (simp only [VRel] at *; exact hv) | (simp [flat] at hf)
theorem flatL_mem : ∀ {l : List AV}, flatL l = true → ∀ a ∈ l, flat a = true
  | [], _, a, ha => by simp at ha
  | x :: l, h, a, ha => by
    change cond (flat x) (flatL l) false = true at h
    cases hx : flat x with
    | false => rw [hx] at h; simp at h
    | true =>
      rw [hx] at h
      rcases List.mem_cons.1 ha with rfl | ha
      · exact hx
      · exact flatL_mem h a ha

theorem sumEq_spec {x y s : Sum} (h : sumEq x y = s) (hn : s ≠ .no) : x = s ∧ y = s := by
  cases x with
  | no => simp only [sumEq] at h; exact absurd h.symm hn
  | flat a =>
    cases y with
    | flat b =>
      simp only [sumEq] at h
      cases hb : avEq 1 a b with
      | false => rw [hb] at h; exact absurd h.symm hn
      | true =>
        rw [hb] at h
        have := avEq_sound 1 a b hb
        subst this
        exact ⟨h, h⟩
    | _ => simp only [sumEq] at h; exact absurd h.symm hn
  | nils =>
    cases y with
    | nils => simp only [sumEq] at h; exact ⟨h, h⟩
    | _ => simp only [sumEq] at h; exact absurd h.symm hn
  | row e sz len l =>
    cases y with
    | row e' sz' len' l' =>
      simp only [sumEq] at h
      cases h1 : Nat.beq e e' with
      | false => rw [h1] at h; exact absurd h.symm hn
      | true =>
        cases h2 : Nat.beq sz sz' with
        | false => rw [h1, h2] at h; exact absurd h.symm hn
        | true =>
          cases h3 : Nat.beq len len' with
          | false => rw [h1, h2, h3] at h; exact absurd h.symm hn
          | true =>
            cases h4 : liftEq (avEq 1) l l' with
            | false => rw [h1, h2, h3, h4] at h; exact absurd h.symm hn
            | true =>
              rw [h1, h2, h3, h4] at h
              have e1 := nbeq.1 h1
              have e2 := nbeq.1 h2
              have e3 := nbeq.1 h3
              have e4 := liftEq_sound (avEq_sound 1) l l' h4
              subst e1; subst e2; subst e3; subst e4
              exact ⟨h, h⟩
    | _ => simp only [sumEq] at h; exact absurd h.symm hn
theorem joinSum_ok {Q : AV → H → Prop} {lo : Nat} : ∀ {o : Out}, VMeets Q o → ∀ s, joinSum lo o = s → s ≠ .no → ∃ v h', Q v h' ∧ sumOf lo v h' = s
  | .fail, _, s, hs, hn => absurd hs.symm hn
  | .code _ _ _, _, s, hs, hn => absurd hs.symm hn
  | .val v h', hr, s, hs, _ => ⟨v, h', hr, hs⟩
  | .fork a b, hr, s, hs, hn => by
    change sumEq (joinSum lo a) (joinSum lo b) = s at hs
    obtain ⟨h1, h2⟩ := sumEq_spec hs hn
    rcases hr with hr | hr
    · exact joinSum_ok hr s h1 hn
    · exact joinSum_ok hr s h2 hn

theorem sumOf_flat {lo : Nat} {v : AV} {h' : H} {a : AV} (hs : sumOf lo v h' = .flat a) : v = a ∧ flat a = true := by
  unfold sumOf at hs
  split at hs
  · cases hs
  · split at hs
    · split at hs
      · rename_i l _
        cases hf : flatL l <;> rw [hf] at hs <;> cases hs
      · cases hs
    · cases hs
  · cases hf : flat v with
    | false => rw [hf] at hs; cases hs
    | true => rw [hf] at hs; injection hs with hs; exact ⟨hs, hs ▸ hf⟩
theorem sumOf_nils {lo : Nat} {v : AV} {h' : H} (hs : sumOf lo v h' = .nils) : v = .nils := by
  unfold sumOf at hs
  split at hs
  · rfl
  · split at hs
    · split at hs
      · rename_i l _
        cases hf : flatL l <;> rw [hf] at hs <;> cases hs
      · cases hs
    · cases hs
  · cases hf : flat v <;> rw [hf] at hs <;> cases hs
theorem sumOf_row {lo : Nat} {v : AV} {h' : H} {e sz len : Nat} {l : List AV} (hs : sumOf lo v h' = .row e sz len l) : ∃ id off cap cs p, v = .slice id off len cap ∧ h'.get id = .arr cs e sz p ∧ lo ≤ id ∧ (p = 0 ∨ lo ≤ p) ∧ (∀ c, cap = some c → c = len) ∧ sz ≠ 0 ∧
    ltake? (len * sz) (ldrop off cs) = some l ∧ flatL l = true := by
  unfold sumOf at hs
  split at hs
  · cases hs
  · rename_i id off len' cap
    split at hs
    · rename_i cs e' sz' p hg
      split at hs
      · rename_i l' hl
        cases hf : flatL l' with
        | false => rw [hf] at hs; cases hs
        | true =>
          rw [hf] at hs
          injection hs with s1 s2 s3 s4
          subst s1; subst s2; subst s3; subst s4
          cases h1 : Nat.ble lo id with
          | false => rw [h1] at hl; simp at hl
          | true =>
            rw [h1] at hl
            cases h2 : (cond (Nat.beq p 0) true (Nat.ble lo p)) with
            | false => rw [h2] at hl; simp at hl
            | true =>
              rw [h2] at hl
              simp only [cond_true] at hl
              cases h5 : Nat.beq sz' 0 with
              | true => simp only [h5, cond_true, cond_false] at hl; cases hl
              | false =>
              have hsz0 : sz' ≠ 0 := fun hh => by rw [hh] at h5; simp at h5
              simp only [h5, cond_false] at hl
              cases h3 : (match cap with | none => true | some c => Nat.beq c len') with
              | false =>
                cases cap with
                | none => simp at h3
                | some c => simp only at h3; simp only [h3, cond_false] at hl; cases hl
              | true =>
                have hl' : ltake? (Nat.mul len' sz') (ldrop off cs) = some l' := by
                  cases cap with
                  | none => exact hl
                  | some c => simp only at h3; simp only [h3, cond_true] at hl; exact hl
                refine ⟨id, off, cap, cs, p, rfl, hg, nble.1 h1, ?_, fun c hc => ?_, hsz0, hl', hf⟩
                · cases h4 : Nat.beq p 0 with
                  | true => exact .inl (nbeq.1 h4)
                  | false => rw [h4] at h2; exact .inr (nble.1 h2)
                · subst hc
                  exact nbeq.1 h3
      · cases hs
    · cases hs
  · cases hf : flat v <;> rw [hf] at hs <;> cases hs

theorem join_ok (W : WRel P ρ h w) {G : Value → World → Prop} {o : Out} (ho : VMeets (fun v h' => ∃ ρ' w' u, Post P ρ h.guard w ρ' h' w' ∧ VRel ρ' v u ∧ h'.ds = h.guard.ds ∧ G u w') o) :
    VMeets (fun v h' => ∃ ρ' w' u, Post P ρ h w ρ' h' w' ∧ VRel ρ' v u ∧ h'.ds = h.ds ∧ G u w') (joinOut h (joinSum h.next o)) := by
  generalize hs : joinSum h.next o = s
  by_cases hn : s = .no
  · subst hn; trivial
  obtain ⟨v, h', ⟨ρ', w', u, p, hv, _, g⟩, hsum⟩ := joinSum_ok ho s hs hn
  have pb := Post.back W p
  cases s with
  | no => exact (hn rfl).elim
  | flat a =>
    obtain ⟨rfl, hf⟩ := sumOf_flat hsum
    exact ⟨ρ, w', u, pb, flat_rel hf hv, rfl, g⟩
  | nils =>
    have := sumOf_nils hsum
    subst this
    exact ⟨ρ, w', u, pb, by simp only [VRel] at *; exact hv, rfl, g⟩
  | row e sz len l =>
    obtain ⟨id, off, cap, cs, pe, rfl, hg, hid, hpe, hcap, hsz0, hl, hf⟩ := sumOf_row hsum
    obtain ⟨ex, ob, c, hex, rfl, hlc, hob, hcc⟩ := slice_inv hv
    obtain ⟨c0, c1, c2, c3, c4, c5⟩ := p.rel.arr hex hg
    have hdom := p.rel.dom id ex hex
    rw [ldrop_eq] at hl
    obtain ⟨l1, l2⟩ := ltake?_some hl
    have hlen : l.length = len * sz := by rw [l2]; simp at l1 ⊢; omega
    have hget : ∀ i a, l[i]? = some a → cs[off + i]? = some a := fun i a hi => by
      have hil : i < len * sz := by rw [← hlen]; exact (List.getElem?_eq_some_iff.1 hi).1
      rw [l2, List.getElem?_take_of_lt hil, List.getElem?_drop] at hi
      exact hi
    have hblk : w.heap.size ≤ ex.block := by
      rcases Nat.lt_or_ge ex.block w.heap.size with hlt | hge
      · have hfoot : Foot ρ' h' ex.block := ⟨id, ex, hex, by rw [hg]; simp, rfl⟩
        rcases p.foot _ hfoot with ⟨i, ei, hi, hne, hb⟩ | hge
        · have hin := (W.dom i ei hi)
          have hgi : h'.get i = h.get i := p.old i hin.2.1
          rcases p.rel.sep i id ei ex (p.sub i ei hi) hex (by have : h.guard.next = h.next := rfl; omega) hb with hh | hh | hh
          · rw [hgi] at hh; exact (hne hh).elim
          · rw [hg] at hh; cases hh
          · obtain ⟨x1, x2, x3, x4, x5, x6, _, g2⟩ := hh
            rw [hg] at g2
            injection g2 with _ _ _ g2
            subst g2
            rcases hpe with h0 | h0
            · omega
            · omega
        · exact hge
      · exact hge
    have hsz : len * sz ≤ c * sz := Nat.mul_le_mul_right sz hlc
    have hfit : c ≠ 0 → ob = ex.off + off ∧ ob + c * sz ≤ c0.size := by
      intro hc0
      have hob' : ob = ex.off + off := hob.resolve_left hc0
      refine ⟨hob', ?_⟩
      rcases hcc with h1 | ⟨_, h1⟩
      · have := hcap c h1
        subst this
        simp at l1
        have : 0 < c * sz := Nat.mul_pos (Nat.pos_of_ne_zero hc0) (Nat.pos_of_ne_zero hsz0)
        omega
      · rw [c2] at h1
        omega
    obtain ⟨ofs, hofs, hfit2⟩ : ∃ ofs, (c = 0 ∨ ob = ofs) ∧ ofs + c * sz ≤ c0.size ∧ (c ≠ 0 → ofs = ex.off + off) := by
      by_cases hc0 : c = 0
      · exact ⟨0, .inl hc0, by rw [hc0]; simp, fun h => (h hc0).elim⟩
      · exact ⟨ob, .inr rfl, (hfit hc0).2, fun _ => (hfit hc0).1⟩
    have padd := pb.addAt (.arr l e sz 0) (some ⟨ex.block, ofs, c * sz, sz⟩) (fun e' he' => by
      injection he' with he'; subst he'
      refine ⟨hblk, hdom.2.2, ?_, PeerIn.zero, c0, c1, rfl, by rw [hlen]; exact hsz, hfit2.1, fun i a hi => ?_⟩
      · rintro ⟨i, ei, hi, _, hb⟩
        have := (W.dom i ei hi).2.2
        simp only at hb
        omega
      · have hil : i < len * sz := by rw [← hlen]; exact (List.getElem?_eq_some_iff.1 hi).1
        have hc0 : c ≠ 0 := fun hh => by
          have : len = 0 := by omega
          rw [this] at hil; simp at hil
        obtain ⟨v, v1, v2, v3⟩ := c5 _ _ (hget i a hi)
        refine ⟨v, ?_, flat_rel (flatL_mem hf a (List.mem_of_getElem? hi)) v2, v3⟩
        simp only
        rw [hfit2.2 hc0, Nat.add_assoc]; exact v1)
    refine ⟨_, w', _, padd, ?_, H.ds_add _ _, g⟩
    simp only [VRel]
    exact ⟨⟨ex.block, ofs, c * sz, sz⟩, ob, c, by simp, rfl, hlc, by simp, by simpa using hofs⟩
end
end Go.Proofs.YtifdcpclpjgkoaaGreatDoor.Ev
end

noncomputable section
namespace Go.Proofs.YtifdcpclpjgkoaaGreatDoor.Ev
section
variable {P : Program} {sf : Self}

theorem leaf_here {ρ : Emb} {h : H} {w : World} {e : Env} {b : Frame} {a : Act} {k : List Item} {cs : List Frame} {n : Nat} {m : Machine} {x : Ex} (H0 : Here P ρ h w e b a n) (hl : Left P m b k cs x a w) : Leaf P ρ h w b k cs n m x e h :=
  ⟨ρ, w, a, Post.refl H0.rel, H0, hl⟩
theorem cmeets_steps {ρ : Emb} {h : H} {w : World} {e : Env} {b : Frame} {a : Act} {k : List Item} {cs : List Frame} {n : Nat} {m m' : Machine} {o : Out} (H0 : Here P ρ h w e b a n) (s : Steps P m m') (hm : CMeets (Leaf P ρ h w b k cs n m') o) : CMeets (Leaf P ρ h w b k cs n m) o :=
  CMeets.mono (fun _ _ _ hl => Leaf.of (Post.refl H0.rel) s hl) hm

theorem codes_ok (S : Sane P) (so : SelfOk P sf) : ∀ c e h, CodeOk P c e h (codeR P c sf e h)
  | .skip, e, h => fun ρ w b a k cs n H0 _ => leaf_here H0 (Steps.one stepR_skip)
  | .region id ops draw, e, h => fun ρ w b a k cs n H0 hok => by
    obtain ⟨h1, h2⟩ := hok
    show CMeets _ (Bool.rec (motive := fun _ => Rest) (opsR P ops ops.toList) (opsD P (Region.before ops).toList ops ops.toList 0 [] []) draw sf e h)
    cases draw with
    | false =>
      have := opsR_ok S so h1 ops.toList 0 rfl ρ h w e b a k cs H0
      rw [List.drop_zero] at this
      exact cmeets_steps H0 (.one stepR_region) this
    | true => exact opsD_ok S so h1 h2 H0
  | .seq x y, e, h => fun ρ w b a k cs n H0 hok => by
    show CMeets _ (seqOut (codeR P y) sf (codeR P x sf e h))
    refine cmeets_steps H0 (.one stepR_seq) (seqOut_ok (y := .code y) (exitTo_code · y k) (gotoIn_code · y k) (codes_ok S so x e h ρ w b a _ cs n H0 hok.1) ?_)
    intro ρ' w' a' e' h' H1
    exact codes_ok S so y e' h' ρ' w' b a' k cs n H1 hok.2
  | .cond c x y, e, h => fun ρ w b a k cs n H0 hok => by
    show CMeets _ (condOut (codeR P x) (codeR P y) sf e h (eval e c))
    refine condOut_ok H0 rfl fun t => ?_
    cases t with
    | false => exact codes_ok S so y e h ρ w b a k cs n H0 hok.2
    | true => exact codes_ok S so x e h ρ w b a k cs n H0 hok.1
  | .block id c, e, h => fun ρ w b a k cs n H0 hok => by
    show CMeets _ (blockOut id (codeR P c sf e h))
    exact cmeets_steps H0 (.one stepR_block) (blockOut_ok (codes_ok S so c e h ρ w b a _ cs n H0 hok))
  | .loop c, e, h => fun ρ w b a k cs n H0 hok => by
    show CMeets _ (seqOut (fun self e h => self (.loop c e h)) sf (codeR P c sf e h))
    refine cmeets_steps H0 (.one stepR_loop) (seqOut_ok (y := .inLoop c) (exitTo_inLoop · c k) (gotoIn_inLoop · c k) (codes_ok S so c e h ρ w b a _ cs n H0 hok) ?_)
    intro ρ' w' a' e' h' H1
    exact so.loop c e' h' ρ' w' b a' k cs n H1 hok
  | .rangeFunc f ps x y, e, h => fun ρ w b a k cs n H0 hok => rangeIn_ok so H0 hok.1 hok.2.1 hok.2.2
  | .exit id, e, h => fun ρ w b a k cs n H0 _ => leaf_here H0 ⟨k, rfl, Steps.refl P _⟩
  | .scope c, e, h => fun ρ w b a k cs n H0 hok => by
    show CMeets _ (scopeOut c sf (codeR P c sf e h))
    exact cmeets_steps H0 (.one stepR_scope) (scopeOut_ok so hok (codes_ok S so c e h ρ w b a _ cs n H0 hok))
  | .label l, e, h => fun ρ w b a k cs n H0 _ => leaf_here H0 (Steps.one stepR_label)
  | .goto l, e, h => fun ρ w b a k cs n H0 _ => leaf_here H0 ⟨k, rfl, Steps.refl P _⟩
  | .ret, e, h => fun ρ w b a k cs n H0 _ => leaf_here H0 ⟨k, Steps.refl P _⟩
  | .refuse _, e, h => fun _ _ _ _ _ _ _ _ _ => trivial

theorem loop_ok (S : Sane P) (so : SelfOk P sf) (c : Code) (e : Env) (h : H) : LoopOk P c e h (codeR P (.loop c) sf e h) := fun ρ w b a k cs n H0 hok => by
  show CMeets _ (seqOut (fun self e h => self (.loop c e h)) sf (codeR P c sf e h))
  refine cmeets_steps H0 (.one stepR_inLoop) (seqOut_ok (y := .inLoop c) (exitTo_inLoop · c k) (gotoIn_inLoop · c k) (codes_ok S so c e h ρ w b a _ cs n H0 hok) ?_)
  intro ρ' w' a' e' h' H1
  exact so.loop c e' h' ρ' w' b a' k cs n H1 hok
theorem scope_ok (S : Sane P) (so : SelfOk P sf) (s c : Code) (e : Env) (h : H) : ScopeOk P s c e h (scopeOut s sf (codeR P c sf e h)) := fun ρ w b a k cs n H0 hs hc =>
  scopeOut_ok so hs (codes_ok S so c e h ρ w b a _ cs n H0 hc)

/-! functions without a body -/
theorem isNamed_iff {fn : Func} {s : String} (h : isNamed fn s = true) : fn.name = s ∧ fn.origin = "" := by
  unfold isNamed at h
  cases hb : fn.name == s with
  | false => rw [hb] at h; simp at h
  | true =>
    rw [hb] at h
    simp only [cond_true] at h
    exact ⟨eq_of_beq hb, eq_of_beq h⟩
theorem callFunc_extern {f : FuncId} {fn : Func} {name : String} {e : Array Value → Sem Value} (hf : P.funcs[f]? = some fn) (hb : fn.body = none) (hn : isNamed fn name = true) (h1 : name ≠ "runtime.NumGoroutine")
    (h2 : Extern.allNextRows.lookup name = none) (h2' : Extern.allNextRows.lookup "" = none) (h3 : Extern.allGenericRows.lookup name = none) (h4 : Extern.allTypedRows.lookup name = none) (h5 : Extern.allRows.lookup name = some e)
    (us : Array Value) (w : World) : (callFunc f us).run P w = ((e us).run P w).andThen fun v w' => .ok (.value v) w' := by
  obtain ⟨n1, n2⟩ := isNamed_iff hn
  have g1 : Extern.findNext fn = none := by simp [Extern.findNext, n1, n2, h2, h2']
  have g2 : Extern.find fn = some e := by simp [Extern.find, n1, h3, h4, h5]
  unfold callFunc
  simp only [Sem.run_bind]
  have hp : (program : Sem Program).run P w = .ok P w := rfl
  simp only [hp, Result.andThen_ok, hf]
  have hne : (fn.name == "runtime.NumGoroutine") = false := by rw [n1]; simpa using h1
  simp only [hne, Bool.false_eq_true, if_false, hb, Option.isNone_none, if_true, Sem.run_bind, g1, g2]
  have hm : (mark (Mark.extern f)).run P w = .ok () w := rfl
  simp only [hm, Result.andThen_ok, Sem.run_pure]

theorem run_clone {t : TypeId} {r : Nat} {es : Array MapEntry} {clock : Nat} {w : World} (hb : w.heap[r]? = some (.map es clock)) :
    (Extern.MapsClone.clone #[.iface t (.map (some r))]).run P w = .ok (.iface t (.map (some w.heap.size))) { w with heap := w.heap.push (.map es clock) } := by
  have e : Extern.MapsClone.clone #[.iface t (.map (some r))] = (getObj r >>= fun o => match o with
      | .map entries clock => (newObj (.map entries clock) >>= fun n => pure (.iface t (.map (some n))))
      | _ => stuck "maps.clone: a map expected") := rfl
  rw [e]
  simp only [Sem.run_bind, run_getMap hb, Result.andThen_ok]
  rfl
theorem compare_spec : ∀ (a b : List UInt8), Lib.compareBytes a b = cond (listEq (a.map UInt8.toNat) (b.map UInt8.toNat)) 0 (cond (byteLess (a.map UInt8.toNat) (b.map UInt8.toNat)) (-1) 1)
  | [], [] => rfl
  | [], _ :: _ => rfl
  | _ :: _, [] => rfl
  | x :: a, y :: b => by
    have ih := compare_spec a b
    unfold Lib.compareBytes
    show _ = cond (cond (Nat.beq x.toNat y.toNat) (listEq (a.map UInt8.toNat) (b.map UInt8.toNat)) false) 0 (cond (cond (Nat.blt x.toNat y.toNat) true (cond (Nat.beq x.toNat y.toNat) (byteLess (a.map UInt8.toNat) (b.map UInt8.toNat)) false)) (-1) 1)
    by_cases hxy : x = y
    · subst hxy
      have h1 : Nat.beq x.toNat x.toNat = true := nbeq.2 rfl
      have h2 : Nat.blt x.toNat x.toNat = false := by
        cases hb : Nat.blt x.toNat x.toNat with
        | false => rfl
        | true => have := nblt.1 hb; omega
      rw [h1, h2]
      simp only [cond_true, cond_false]
      rw [← ih]
      simp
    · have h1 : Nat.beq x.toNat y.toNat = false := by
        cases hb : Nat.beq x.toNat y.toNat with
        | false => rfl
        | true => exact (hxy (UInt8.toNat_inj.1 (nbeq.1 hb))).elim
      rw [h1]
      simp only [cond_false]
      by_cases hlt : x < y
      · have h2 : Nat.blt x.toNat y.toNat = true := nblt.2 (UInt8.lt_iff_toNat_lt.1 hlt)
        rw [h2]; simp [hlt]
      · have h2 : Nat.blt x.toNat y.toNat = false := by
          cases hb : Nat.blt x.toNat y.toNat with
          | false => rfl
          | true => exact (hlt (UInt8.lt_iff_toNat_lt.2 (nblt.1 hb))).elim
        have h3 : y < x := UInt8.lt_of_le_of_ne (UInt8.not_lt.1 hlt) (Ne.symm hxy)
        rw [h2]; simp [hlt, h3]
theorem findNat_off (b : Nat) : ∀ (l : List Nat) (i : Nat), findNat b l i = (findNat b l 0).map (· + i)
  | [], _ => rfl
  | x :: l, i => by
    show cond (Nat.beq x b) (some i) (findNat b l (Nat.succ i)) = Option.map (· + i) (cond (Nat.beq x b) (some 0) (findNat b l (Nat.succ 0)))
    cases Nat.beq x b with
    | true => simp
    | false =>
      simp only [cond_false]
      rw [findNat_off b l (Nat.succ i), findNat_off b l (Nat.succ 0)]
      cases findNat b l 0 with
      | none => rfl
      | some j => simp; omega
theorem index_spec (c : UInt8) : ∀ (l : List UInt8), Lib.indexByte l c = match findNat c.toNat (l.map UInt8.toNat) 0 with | some i => (i : Int) | none => -1
  | [] => rfl
  | x :: l => by
    have ih := index_spec c l
    unfold Lib.indexByte
    show _ = match cond (Nat.beq x.toNat c.toNat) (some 0) (findNat c.toNat (l.map UInt8.toNat) (Nat.succ 0)) with | some i => (i : Int) | none => -1
    by_cases hxc : x = c
    · subst hxc
      rw [nbeq.2 rfl]
      simp
    · have h1 : Nat.beq x.toNat c.toNat = false := by
        cases hb : Nat.beq x.toNat c.toNat with
        | false => rfl
        | true => exact (hxc (UInt8.toNat_inj.1 (nbeq.1 hb))).elim
      have h2 : (x == c) = false := by simpa using hxc
      rw [h1, h2]
      simp only [Bool.false_eq_true, if_false, cond_false]
      rw [findNat_off, ih]
      cases findNat c.toNat (l.map UInt8.toNat) 0 with
      | none => rfl
      | some j =>
        have : ((j : Int) == -1) = false := by
          rw [beq_eq_false_iff_ne]; omega
        simp [this]
theorem externA_ok {f : FuncId} {fn : Func} (hf : P.funcs[f]? = some fn) (hb : fn.body = none) (args : List AV) (h : H) : CallOk P f args h (externA fn args h) := by
  intro ρ w us c cs W hus
  unfold externA
  cases h1 : isNamed fn "maps.clone" with
  | true =>
    simp only [cond_true]
    split
    · rename_i t m
      split
      · rename_i es cl hg
        obtain ⟨U, rfl, hU⟩ := hus.one
        simp only [VRel] at hU
        obtain ⟨u, rfl, em, hem, rfl⟩ := hU
        obtain ⟨_, es', m1, m2⟩ := W.map hem hg
        have hrun := callFunc_extern (P := P) hf hb h1 (by decide) rfl rfl rfl rfl rfl #[.iface t (.map (some em.block))] w
        rw [run_clone m1] at hrun
        have hp := Post.add W (.map es cl) (.map es' cl) 0 0 (fun _ _ _ _ hh => by cases hh) fun ρ' hs _ => ⟨rfl, es', rfl, m2.mono hs⟩
        refine ⟨_, _, _, hp, ?_, H.ds_add _ _, .inl hrun⟩
        simp only [VRel]
        exact ⟨_, rfl, ⟨w.heap.size, 0, 0, 0⟩, by simp, rfl⟩
      · trivial
    · trivial
  | false =>
    cases h2 : isNamed fn "internal/abi.NoEscape" with
    | true =>
      simp only [cond_true, cond_false]
      split
      · rename_i x
        obtain ⟨U, rfl, hU⟩ := hus.one
        have hrun := callFunc_extern (P := P) hf hb h2 (by decide) rfl rfl rfl rfl rfl #[U] w
        exact ⟨ρ, w, U, Post.refl W, hU, rfl, .inl hrun⟩
      · trivial
    | false =>
      cases h3 : isNamed fn "internal/bytealg.abigen_runtime_cmpstring" with
      | true =>
        simp only [cond_true, cond_false]
        split
        · rename_i s t
          obtain ⟨X, Y, rfl, hX, hY⟩ := hus.two
          simp only [VRel] at hX hY
          obtain ⟨a, rfl, rfl⟩ := hX
          obtain ⟨b, rfl, rfl⟩ := hY
          have hrun := callFunc_extern (P := P) hf hb h3 (by decide) rfl rfl rfl rfl rfl #[.string a, .string b] w
          rw [Lib.run_compareString] at hrun
          refine ⟨ρ, w, _, Post.refl W, ?_, rfl, .inl hrun⟩
          simp only [VRel, compare_spec]
        · trivial
      | false =>
        cases h4 : isNamed fn "internal/bytealg.IndexByteString" with
        | true =>
          simp only [cond_true, cond_false]
          split
          · rename_i s b
            cases hlt : Nat.blt b 256 with
            | false => trivial
            | true =>
              have hb256 := nblt.1 hlt
              obtain ⟨X, Y, rfl, hX, hY⟩ := hus.two
              simp only [VRel] at hX hY
              obtain ⟨a, rfl, rfl⟩ := hX
              subst hY
              have hrun := callFunc_extern (P := P) hf hb h4 (by decide) rfl rfl rfl rfl rfl #[.string a, .int .u8 (.ofNat b)] w
              rw [Lib.run_indexByteString] at hrun
              have hc : (Int.ofNat b).toNat.toUInt8.toNat = b := by simp; omega
              have hsp := index_spec (Int.ofNat b).toNat.toUInt8 a.data.toList
              rw [hc] at hsp
              simp only [cond_true]
              cases hfn : findNat b (a.data.toList.map UInt8.toNat) 0 with
              | none =>
                rw [hfn] at hsp
                rw [hsp] at hrun
                exact ⟨ρ, w, _, Post.refl W, by first | (simp only [VRel]; done) | (simp only [VRel]; rfl), rfl, .inl hrun⟩
              | some i =>
                rw [hfn] at hsp
                rw [hsp] at hrun
                exact ⟨ρ, w, _, Post.refl W, by first | (simp only [VRel]; done) | (simp only [VRel]; rfl), rfl, .inl hrun⟩
          · trivial
        | false => trivial

/-! a step of the evaluator, and many -/
theorem stepCall_ok (S : Sane P) (so : SelfOk P sf) (J : List Nat) (f : Nat) (args : List AV) (h : H) : CallOk P f args h (stepCall P J sf f args h) := by
  unfold stepCall
  cases hfn : funcT P f with
  | none => intro _ _ _ _ _ _ _; trivial
  | some fn =>
    have hf := S.func hfn
    simp only
    cases hnum : fn.name == "runtime.NumGoroutine" with
    | true => intro _ _ _ _ _ _ _; trivial
    | false =>
      simp only [cond_false]
      cases hb : fn.body with
      | none => exact externA_ok hf hb args h
      | some c =>
        have co := codes_ok (sf := sf) S so
        have henter : ∀ us w, (callFunc f us).run P w = .ok (.enter f us) w := fun us w => callFunc_enter hf hb (by simpa using hnum) us
        intro ρ w us c0 cs W hus
        cases hJ : hasNat J f with
        | false =>
          refine VMeets.mono ?_ (bodyCall_ok S co hf hb W hus c0 cs)
          rintro v h' ⟨ρ', w', u, p, hv, hds, hs⟩
          exact ⟨ρ', w', u, p, hv, hds, .inr (.inr (.inl ⟨f, us, w, henter us w, hs⟩))⟩
        | true =>
          refine VMeets.mono ?_ (join_ok W (G := fun u w' => Steps P (lone (Frame.enter P f us .normal) (c0 :: cs) w) (lone (c0.finish u) cs w')) (bodyCall_ok S co hf hb W.guard hus c0 cs))
          rintro v h' ⟨ρ', w', u, p, hv, hds, hs⟩
          exact ⟨ρ', w', u, p, hv, hds, .inr (.inr (.inl ⟨f, us, w, henter us w, hs⟩))⟩
theorem step_ok (S : Sane P) (so : SelfOk P sf) (J : List Nat) : SelfOk P (Ev.step P J sf) :=
  ⟨fun c e h => loop_ok S so c e h, fun s c e h => scope_ok S so s c e h, fun f args h => stepCall_ok S so J f args h, fun f args h => stepCallv_ok S so (codes_ok S so) f args h⟩
theorem run_ok (S : Sane P) (J : List Nat) : ∀ n, SelfOk P (run P J n)
  | 0 => ⟨fun _ _ _ _ _ _ _ _ _ _ _ _ => trivial, fun _ _ _ _ _ _ _ _ _ _ _ _ _ _ => trivial, fun _ _ _ _ _ _ _ _ _ _ => trivial, fun _ _ _ _ _ _ _ _ _ _ _ _ => trivial⟩
  | n + 1 => step_ok S (run_ok S J n) J
theorem yes_ok {Q : AV → H → Prop} : ∀ {o : Out}, yes o = true → VMeets Q o → ∃ h, Q (.bool true) h
  | .fail, h, _ => by cases h
  | .code _ _ _, h, _ => by cases h
  | .val v h', h, hq => by
    cases v with
    | bool b =>
      have hb : b = true := h
      subst hb
      exact ⟨h', hq⟩
    | _ => cases h
  | .fork a b, h, hq => by
    change cond (yes a) (yes b) false = true at h
    cases ha : yes a with
    | false => rw [ha] at h; cases h
    | true =>
      rw [ha] at h
      rcases hq with hq | hq
      · exact yes_ok ha hq
      · exact yes_ok h hq

/-- WHAT THE EVALUATOR SAYS HOLDS OF THE MACHINE: a function without arguments, entered anywhere, hands back true, and leaves all that was there as it was -/
theorem top_sound (S : Sane P) {J : List Nat} {f : Nat} (ht : top P J f = true) (hJ : hasNat J f = false) (w : World) :
    Calls P f #[] w fun e w' => e = .returned (.bool true) ∧ Keeps (fun _ => False) w w' := by
  have W : WRel P (fun _ => none) ⟨.nil, 1, 1, .fn []⟩ w := ⟨fun _ _ h => (by cases h), fun _ _ h => (by cases h), fun _ _ _ _ h => (by cases h), Nat.le_refl _, Nat.le_refl _, fun _ _ h => (by cases h)⟩
  intro cs
  have ht' : yes (stepCall P J (run P J 999999) f [] ⟨.nil, 1, 1, .fn []⟩) = true := ht
  have so := run_ok S J 999999
  generalize run P J 999999 = sf at ht' so
  unfold stepCall at ht'
  cases hfn : funcT P f with
  | none => rw [hfn] at ht'; cases ht'
  | some fn =>
    have hf := S.func hfn
    rw [hfn] at ht'
    simp only at ht'
    cases hnum : fn.name == "runtime.NumGoroutine" with
    | true => rw [hnum] at ht'; cases ht'
    | false =>
      rw [hnum] at ht'
      simp only [cond_false] at ht'
      cases hb : fn.body with
      | none =>
        exfalso
        rw [hb] at ht'
        simp only at ht'
        unfold externA at ht'
        cases h1 : isNamed fn "maps.clone" with
        | true => rw [h1] at ht'; cases ht'
        | false =>
          cases h2 : isNamed fn "internal/abi.NoEscape" with
          | true => rw [h1, h2] at ht'; cases ht'
          | false =>
            cases h3 : isNamed fn "internal/bytealg.abigen_runtime_cmpstring" with
            | true => rw [h1, h2, h3] at ht'; cases ht'
            | false =>
              cases h4 : isNamed fn "internal/bytealg.IndexByteString" with
              | true => rw [h1, h2, h3, h4] at ht'; cases ht'
              | false => rw [h1, h2, h3, h4] at ht'; cases ht'
      | some c =>
        rw [hb] at ht'
        simp only [hJ] at ht'
        have hm := bodyCall_leaves S (codes_ok (sf := sf) S so) hf hb W (args := []) (us := #[]) VRels.nil cs
        obtain ⟨h', ρ', w', u, fr, p, hv, _, hs, hfr, hl⟩ := yes_ok ht' hm
        simp only [VRel] at hv
        subst hv
        refine ⟨.returned (.bool true), w', fr, ⟨rfl, p.keep.size, fun b hb _ => p.keep.same b hb ?_, p.keep.tape, p.keep.os, p.keep.output⟩, hs, hfr, hl⟩
        rintro ⟨i, e, he, _⟩
        cases he
end
end Go.Proofs.YtifdcpclpjgkoaaGreatDoor.Ev
end

noncomputable section
namespace Go.Proofs.YtifdcpclpjgkoaaGreatDoor.Ev
theorem bind_ok {ε α β : Type} {x : Except ε α} {f : α → Except ε β} {b : β} (h : (x >>= f) = .ok b) : ∃ a, x = .ok a ∧ f a = .ok b := by
  cases x with
  | error e => cases h
  | ok a => exact ⟨a, rfl, h⟩

theorem req_ok {c : Bool} {m : String} {u : Unit} (h : CheckCode.require c m = .ok u) : c = true := by
  unfold CheckCode.require at h
  cases c with
  | true => rfl
  | false => cases h
theorem forM_ok {α : Type} {g : α → Except String Unit} : ∀ {l : List α} {u : Unit}, l.forM g = .ok u → ∀ x ∈ l, g x = .ok ()
  | [], _, _, x, hx => by simp at hx
  | y :: l, u, h, x, hx => by
    have h' : (g y >>= fun _ => l.forM g) = .ok u := h
    obtain ⟨a, h1, h2⟩ := bind_ok h'
    rcases List.mem_cons.1 hx with rfl | hx
    · exact h1
    · exact forM_ok h2 x hx
theorem forMA_ok {α : Type} {g : α → Except String Unit} {a : Array α} {u : Unit} (h : a.forM g = .ok u) : ∀ x ∈ a.toList, g x = .ok () := by
  obtain ⟨l⟩ := a
  rw [List.forM_toArray' _ _ (by rfl)] at h
  exact forM_ok h
theorem region_okc {P : Program} {f : Func} {id : Nat} {ops : Array Oper} {draw : Bool} {u : Unit} (h : CheckCode.region P f id ops draw = .ok u) : Okc P f.ntmps (.region id ops draw) := by
  unfold CheckCode.region at h
  obtain ⟨_, h1, h⟩ := bind_ok h
  obtain ⟨_, _, h⟩ := bind_ok h
  refine ⟨fun o ho d hd => ?_, req_ok h⟩
  obtain ⟨i, hi⟩ := List.getElem?_of_mem ho
  have hm : (o, i) ∈ ops.toList.zipIdx := by rw [List.mem_zipIdx_iff_getElem?]; exact hi
  have h2 := forM_ok h1 _ hm
  simp only [hd] at h2
  obtain ⟨_, h3, _⟩ := bind_ok h2
  simpa using req_ok h3
theorem code_okc {P : Program} {f : Func} : ∀ (c : Code) (bs ls : List Nat) {u : Unit}, CheckCode.code P f bs ls c = .ok u → Okc P f.ntmps c
  | .skip, _, _, _, _ => trivial
  | .ret, _, _, _, _ => trivial
  | .label _, _, _, _, _ => trivial
  | .refuse _, _, _, _, _ => trivial
  | .exit _, _, _, _, _ => trivial
  | .goto _, _, _, _, _ => trivial
  | .region id ops draw, bs, ls, u, h => region_okc (by simpa only [CheckCode.code] using h)
  | .seq a b, bs, ls, u, h => by
    simp only [CheckCode.code] at h
    obtain ⟨_, h1, h2⟩ := bind_ok h
    exact ⟨code_okc a bs ls h1, code_okc b bs ls h2⟩
  | .cond c a b, bs, ls, u, h => by
    simp only [CheckCode.code] at h
    obtain ⟨_, _, h⟩ := bind_ok h
    obtain ⟨_, h1, h2⟩ := bind_ok h
    exact ⟨code_okc a bs ls h1, code_okc b bs ls h2⟩
  | .block id c, bs, ls, u, h => code_okc c (id :: bs) ls (by simpa only [CheckCode.code] using h)
  | .loop c, bs, ls, u, h => code_okc c bs ls (by simpa only [CheckCode.code] using h)
  | .scope c, bs, ls, u, h => code_okc c bs (CheckCode.spine c ++ ls) (by simpa only [CheckCode.code] using h)
  | .rangeFunc g ps a c, bs, ls, u, h => by
    simp only [CheckCode.code] at h
    obtain ⟨_, _, h⟩ := bind_ok h
    obtain ⟨_, h0, h⟩ := bind_ok h
    obtain ⟨_, _, h⟩ := bind_ok h
    obtain ⟨_, h1, h2⟩ := bind_ok h
    refine ⟨fun p hp => ?_, code_okc a [] [] h1, code_okc c bs ls h2⟩
    exact of_decide_eq_true (req_ok (forMA_ok h0 p hp))
theorem func_okc {P : Program} {f : Func} {c : Code} {u : Unit} (hb : f.body = some c) (h : CheckCode.func P f = .ok u) : Okc P f.ntmps c := by
  unfold CheckCode.func at h
  obtain ⟨_, _, h⟩ := bind_ok h
  obtain ⟨_, _, h⟩ := bind_ok h
  obtain ⟨_, _, h⟩ := bind_ok h
  simp only [hb] at h
  obtain ⟨_, _, h⟩ := bind_ok h
  obtain ⟨_, h1, _⟩ := bind_ok h
  exact code_okc c [] [] h1
theorem sane_of_check {P : Program} (h : P.check = .ok ()) (h1 : Nat.ble P.types.size 65536 = true) (h2 : Nat.ble P.funcs.size 65536 = true) (h3 : P.follows .mixedOrders = true) : Sane P := by
  refine ⟨?_, ?_, h3, fun i fn c hf hb => ?_⟩
  · have := nble.1 h1; omega
  · have := nble.1 h2; omega
  · unfold Program.check at h
    obtain ⟨_, h4, _⟩ := bind_ok h
    have hi : i ∈ List.range P.funcs.size := by
      rw [List.mem_range]
      exact (Array.getElem?_eq_some_iff.1 hf).1
    have h5 := forM_ok h4 i hi
    unfold CheckCode.funcAt at h5
    rw [hf] at h5
    simp only at h5
    cases h6 : CheckCode.func P fn with
    | error e => rw [h6] at h5; cases h5
    | ok u => exact func_okc hb h6
end Go.Proofs.YtifdcpclpjgkoaaGreatDoor.Ev
end
