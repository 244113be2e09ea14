/-
  What is proved here: each operation of the evaluator is the machine's, part 2. Conditions: none.
-/
import Derived.Test.YtfkpcifchgnmnaaGreatDoorEvB
import Derived.Laws.Append
set_option linter.unusedVariables false
set_option linter.unusedSimpArgs false
noncomputable section
namespace Go.Proofs.YtfkpcifchgnmnaaGreatDoor.Ev
variable {P : Program} {ρ : Emb} {h : H} {w : World} {e : Env} {tmps : Array Value}

theorem MRels.length : ∀ {l : List (AV × AV × Nat)} {m : List MapEntry}, MRels ρ l m → l.length = m.length
  | [], m, h => by simp only [MRels] at h; subst h; rfl
  | (k, v, b) :: l, m, h => by
    simp only [MRels] at h
    obtain ⟨x, ys, rfl, _, _, _, u⟩ := h
    simp [MRels.length u]
theorem MRels.get : ∀ {l : List (AV × AV × Nat)} {m : List MapEntry}, MRels ρ l m → ∀ (i : Nat) (k v : AV) (b : Nat), l[i]? = some (k, v, b) → ∃ x : MapEntry, m[i]? = some x ∧ VRel ρ k x.key ∧ VRel ρ v x.val ∧ x.born = b
  | [], m, h, i, k, v, b, hi => by simp at hi
  | (k', v', b') :: l, m, h, i, k, v, b, hi => by
    simp only [MRels] at h
    obtain ⟨x, ys, rfl, a1, a2, a3, u⟩ := h
    cases i with
    | zero => simp at hi; obtain ⟨rfl, rfl, rfl⟩ := hi; exact ⟨x, rfl, a1, a2, a3⟩
    | succ i => simp at hi; simpa using MRels.get u i k v b hi
theorem MRels.append : ∀ {l : List (AV × AV × Nat)} {m : List MapEntry}, MRels ρ l m → ∀ {k v b} {x : MapEntry}, VRel ρ k x.key → VRel ρ v x.val → x.born = b → MRels ρ (l ++ [(k, v, b)]) (m ++ [x])
  | [], m, h, k, v, b, x, a1, a2, a3 => by simp only [MRels] at h; subst h; simp only [List.nil_append, MRels]; exact ⟨x, [], rfl, a1, a2, a3, rfl⟩
  | (k', v', b') :: l, m, h, k, v, b, x, a1, a2, a3 => by
    simp only [MRels] at h
    obtain ⟨y, ys, rfl, c1, c2, c3, u⟩ := h
    simp only [List.cons_append, MRels]
    exact ⟨y, ys ++ [x], rfl, c1, c2, c3, MRels.append u a1 a2 a3⟩
theorem MRels.set : ∀ {l : List (AV × AV × Nat)} {m : List MapEntry}, MRels ρ l m → ∀ (i : Nat) {k v b} {x : MapEntry}, VRel ρ k x.key → VRel ρ v x.val → x.born = b → MRels ρ (l.set i (k, v, b)) (m.set i x)
  | [], m, h, i, k, v, b, x, a1, a2, a3 => by simp only [MRels] at h; subst h; simp [MRels]
  | (k', v', b') :: l, m, h, i, k, v, b, x, a1, a2, a3 => by
    simp only [MRels] at h
    obtain ⟨y, ys, rfl, c1, c2, c3, u⟩ := h
    cases i with
    | zero => simp only [List.set_cons_zero, MRels]; exact ⟨x, ys, rfl, a1, a2, a3, u⟩
    | succ i => simp only [List.set_cons_succ, MRels]; exact ⟨y, _, rfl, c1, c2, c3, MRels.set u i a1 a2 a3⟩
theorem MRels.erase : ∀ {l : List (AV × AV × Nat)} {m : List MapEntry}, MRels ρ l m → ∀ (i : Nat), MRels ρ (l.eraseIdx i) (m.eraseIdx i)
  | [], m, h, i => by simp only [MRels] at h; subst h; simp [MRels]
  | (k', v', b') :: l, m, h, i => by
    simp only [MRels] at h
    obtain ⟨y, ys, rfl, c1, c2, c3, u⟩ := h
    cases i with
    | zero => simpa using u
    | succ i => simp only [List.eraseIdx_cons_succ, MRels]; exact ⟨y, _, rfl, c1, c2, c3, MRels.erase u i⟩
theorem WRel.map (r : WRel P ρ h w) {i : Nat} {ex : Ext} (he : ρ i = some ex) {es : List (AV × AV × Nat)} {clock : Nat} (ho : h.get i = .map es clock) :
    ex.off = 0 ∧ ∃ es', w.heap[ex.block]? = some (.map es' clock) ∧ MRels ρ es es'.toList := by
  have := r.obj i ex he
  rw [ho] at this
  exact this

/-! a key is looked up -/
theorem sameNow_equal {kt : TypeId} {d : TypeDesc} (hu : P.underlying kt = some d) {K K' : Value} {b : Bool} (hs : Instr.sameNow d K K' = some b) : (Op.equal kt K K').run P w = .ok b w := by
  unfold Instr.sameNow at hs
  split at hs
  · split at hs
    · rename_i hk
      subst hk
      injection hs with hs; subst hs
      exact run_equalIn_int w 9999 kt _ _ _ _ hu
    · simp at hs
  · injection hs with hs; subst hs
    show (Op.equalIn (9999 + 1) _ _ _).run P w = _
    rw [run_equalIn_string w 9999 kt _ _ hu, beq_toListBytes]
  · injection hs with hs; subst hs
    exact run_equalIn_bool w 9999 kt _ _ hu
  · simp at hs
theorem findNow_asking {kt : TypeId} {d : TypeDesc} (hu : P.underlying kt = some d) {K : Value} : ∀ (es : List MapEntry) (i : Nat) (r : Option (Nat × Value)), Instr.findNow d K es i = some r → (Instr.findAsking kt K es i).run P w = .ok r w
  | [], i, r, hr => by simp [Instr.findNow] at hr; subst hr; rfl
  | x :: es, i, r, hr => by
    simp only [Instr.findNow] at hr
    simp only [Instr.findAsking, Sem.run_bind]
    split at hr
    · rename_i hs
      injection hr with hr; subst hr
      rw [sameNow_equal hu hs]; rfl
    · rename_i hs
      rw [sameNow_equal hu hs]
      simpa using findNow_asking hu es (i + 1) r hr
    · simp at hr
theorem findKey_asking {kt : TypeId} {d : TypeDesc} (hu : P.underlying kt = some d) (K : Value) (es : List MapEntry) : (Instr.findKey kt K es).run P w = (Instr.findAsking kt K es 0).run P w := by
  unfold Instr.findKey
  simp only [Sem.run_bind, run_underlying hu, Result.andThen_ok]
  cases hf : Instr.findNow d K es 0 with
  | none => rfl
  | some r => rw [findNow_asking hu es 0 r hf]; rfl
/-- what was found -/
def KRel (ρ : Emb) (k : AV) (es : List (AV × AV × Nat)) : Option (Nat × AV × Nat) → Option (Nat × Value) → Prop
  | none, r => r = none
  | some (i, v, b), r => ∃ V, r = some (i, V) ∧ VRel ρ v V ∧ es[i]? = some (k, v, b) ∧ keyish k = true
theorem asking_sound (S : Sane P) (r : WRel P ρ h w) {kt : Nat} {k : AV} {K : Value} (hK : VRel ρ k K) : ∀ (es : List (AV × AV × Nat)) (es' : List MapEntry) (i : Nat) (res : Option (Nat × AV × Nat)),
    lookupKey? P kt h k es i = some res → MRels ρ es es' → ∃ res', (Instr.findAsking kt K es' i).run P w = .ok res' w ∧
      (match res with | none => res' = none | some (j, v, b) => ∃ V, res' = some (j, V) ∧ VRel ρ v V ∧ i ≤ j ∧ es[j - i]? = some (k, v, b) ∧ keyish k = true)
  | [], es', i, res, hl, hm => by
    simp only [MRels] at hm
    subst hm
    change some none = some res at hl
    injection hl with hl; subst hl
    exact ⟨none, rfl, rfl⟩
  | (k', v, b) :: es, es', i, res, hl, hm => by
    simp only [MRels] at hm
    obtain ⟨x, ys, rfl, a1, a2, a3, u⟩ := hm
    change (match eqA P 4 kt h k k' with
      | some true => cond (cond (keyish k) (avEq 3 k k') false) (some (some (i, v, b))) none
      | some false => lookupKey? P kt h k es (Nat.succ i)
      | none => none) = some res at hl
    simp only [Instr.findAsking, Sem.run_bind]
    split at hl
    · rename_i hq
      have heq : (Op.equal kt K x.key).run P w = .ok true w := eqA_sound S r 4 kt k k' true hq K x.key hK a1 10000 (by decide)
      rw [heq]
      obtain ⟨hc, hl⟩ := condNone hl
      injection hl with hl; subst hl
      have hky : keyish k = true := by
        cases hh : keyish k with
        | true => rfl
        | false => rw [hh] at hc; simp at hc
      rw [hky] at hc
      have hkk := avEq_sound 3 k k' (by simpa using hc)
      refine ⟨some (i, x.val), rfl, x.val, rfl, a2, Nat.le_refl _, ?_, hky⟩
      rw [hkk]; simp
    · rename_i hq
      have heq : (Op.equal kt K x.key).run P w = .ok false w := eqA_sound S r 4 kt k k' false hq K x.key hK a1 10000 (by decide)
      rw [heq]
      obtain ⟨res', r1, r2⟩ := asking_sound S r hK es ys (i + 1) res hl u
      refine ⟨res', by simpa using r1, ?_⟩
      cases res with
      | none => exact r2
      | some jv =>
        obtain ⟨j, v', b'⟩ := jv
        obtain ⟨V, s1, s2, s3, s4, s5⟩ := r2
        refine ⟨V, s1, s2, by omega, ?_, s5⟩
        rw [show j - i = (j - (i + 1)) + 1 by omega]
        simpa using s4
    · simp at hl
theorem keyOk_desc {n t : Nat} {x : AV} (hk : keyOk P (n + 1) t x = true) : ∃ d, descT P t = some d := by
  cases hdd : descT P t with
  | some d => exact ⟨d, rfl⟩
  | none =>
    unfold keyOk at hk
    simp only [hdd] at hk
    simp at hk
theorem run_getMap {b : Nat} {es : Array MapEntry} {clock : Nat} (hb : w.heap[b]? = some (.map es clock)) : (getObj b).run P w = .ok (.map es clock) w := by simp [getObj, Sem.run, hb]
theorem lookupKey_sound (S : Sane P) (r : WRel P ρ h w) {kt : Nat} {k : AV} {K : Value} (hK : VRel ρ k K) {es : List (AV × AV × Nat)} {es' : List MapEntry} {res : Option (Nat × AV × Nat)}
    (hl : lookupKey P kt h k es 0 = some res) (hm : MRels ρ es es') :
    (∀ em w, (Instr.checkKey em 10000 kt K).run P w = .ok () w) ∧ ∃ res', (Instr.findKey kt K es').run P w = .ok res' w ∧ KRel ρ k es res res' := by
  unfold lookupKey at hl
  obtain ⟨hk, hl⟩ := condNone hl
  obtain ⟨d, hd⟩ := keyOk_desc (n := 3) hk
  refine ⟨fun em w => keyOk_sound S 4 kt k hk K hK 10000 (by decide) em w, ?_⟩
  obtain ⟨res', r1, r2⟩ := asking_sound S r hK es es' 0 res hl hm
  refine ⟨res', by rw [findKey_asking (S.desc hd)]; exact r1, ?_⟩
  cases res with
  | none => exact r2
  | some jv =>
    obtain ⟨j, v', b'⟩ := jv
    obtain ⟨V, s1, s2, _, s4, s5⟩ := r2
    exact ⟨V, s1, s2, by simpa using s4, s5⟩
theorem leaf_same {k : AV} (hk : leafK k = true) {K K' : Value} (h1 : VRel ρ k K) (h2 : VRel ρ k K') (n : Nat) : Instr.sameBits n K K' = true := by
  cases k <;> simp [leafK] at hk
  · rw [h1.bool_inv, h2.bool_inv]; cases n <;> simp [Instr.sameBits]
  · rw [h1.int_inv, h2.int_inv]; cases n <;> simp [Instr.sameBits]
  · obtain ⟨a, rfl, a1⟩ := h1.str_inv
    obtain ⟨b, rfl, b1⟩ := h2.str_inv
    have : a.data.toList = b.data.toList := bytes_inj _ _ (a1.trans b1.symm)
    have hab : a == b := by rw [beq_toListBytes, ByteArray.toList_eq, ByteArray.toList_eq, this]; simp
    cases n <;> simpa [Instr.sameBits] using hab
theorem leaves_same : ∀ {l : List AV}, (∀ x ∈ l, leafK x = true) → ∀ {a b : List Value}, VRels ρ l a → VRels ρ l b → ∀ n, (a.zip b).all (fun (x, y) => Instr.sameBits n x y) = true
  | [], _, a, b, h1, h2, n => by simp only [VRels] at h1; subst h1; rfl
  | x :: l, hl, a, b, h1, h2, n => by
    simp only [VRels] at h1 h2
    obtain ⟨u, us, rfl, u1, u2⟩ := h1
    obtain ⟨v, vs, rfl, v1, v2⟩ := h2
    simp only [List.zip_cons_cons, List.all_cons, Bool.and_eq_true]
    exact ⟨leaf_same (hl x (by simp)) u1 v1 n, leaves_same (fun y hy => hl y (by simp [hy])) u2 v2 n⟩
theorem keyish_same {k : AV} (hk : keyish k = true) {K K' : Value} (h1 : VRel ρ k K) (h2 : VRel ρ k K') (n : Nat) : Instr.sameBits (n + 1) K K' = true := by
  unfold keyish at hk
  split at hk
  · rename_i l
    simp only [VRel] at h1 h2
    obtain ⟨a, rfl, a1, _⟩ := h1
    obtain ⟨b, rfl, b1, _⟩ := h2
    simp only [Instr.sameBits, Bool.and_eq_true]
    refine ⟨?_, leaves_same ((lall_iff _ _).1 hk) a1 b1 n⟩
    have e1 := a1.length
    have e2 := b1.length
    simp at e1 e2 ⊢; omega
  · exact leaf_same hk h1 h2 _
theorem stays {k : AV} (hk : keyish k = true) {K K' : Value} (h1 : VRel ρ k K) (h2 : VRel ρ k K') : ∀ w, (Instr.keyThatStays K K').run P w = .ok K' w := by
  intro w
  unfold Instr.keyThatStays
  rw [keyish_same hk h1 h2 9999]; rfl

theorem lookup_sound (S : Sane P) (hE : ERel ρ e tmps) (t : Nat) (x k : Operand) (ok : Bool) : VOk P ρ h w (Instr.lookup t (ev tmps x) (ev tmps k) ok) (xLookup P t x k ok e h) := by
  have hX := eval_rel hE x
  have hK := eval_rel hE k
  unfold xLookup
  split
  · rename_i kt et hm
    have hu := S.desc (mapT_desc hm)
    split
    · rename_i es z hes hz
      obtain ⟨i, zv, a1, a2, rfl⟩ := zeroT_info hz
      have hzr : ∀ w, (zeroValue et).run P w = .ok zv w := fun w => by simp [zeroValue, typeInfo, S.info a1, a2]
      -- the entries in the model's memory
      have hmap : WRel P ρ h w → ∃ es' : Array MapEntry, MRels ρ es es'.toList ∧ ∀ u : Value, (do
          Instr.checkKey es'.isEmpty 10000 kt (ev tmps k)
          let (v, b) ← match ← Instr.findKey kt (ev tmps k) es'.toList with
            | some (_, v) => pure (v, true)
            | none => pure (← zeroValue et, false)
          pure (if ok then .tuple #[v, .bool b] else v) : Sem Value).run P w = .ok u w → (Instr.lookup t (ev tmps x) (ev tmps k) ok).run P w = .ok u w := by
        intro r
        split at hes
        · rename_i hx
          rw [hx] at hX
          simp only [VRel] at hX
          injection hes with hes; subst hes
          refine ⟨#[], by simp [MRels], fun u hu' => ?_⟩
          unfold Instr.lookup
          rw [hX]
          simp only [Sem.run_bind, run_underlying hu, Result.andThen_ok, Sem.run_pure] at hu' ⊢
          exact hu'
        · rename_i id hx
          rw [hx] at hX
          simp only [VRel] at hX
          obtain ⟨ex, he, hv⟩ := hX
          split at hes
          · rename_i es0 clock hg
            injection hes with hes; subst hes
            obtain ⟨_, es', b1, b2⟩ := r.map he hg
            refine ⟨es', b2, fun u hu' => ?_⟩
            unfold Instr.lookup
            rw [hv]
            simp only [Sem.run_bind, run_underlying hu, Result.andThen_ok, run_getMap b1, Sem.run_pure] at hu' ⊢
            exact hu'
          · simp at hes
        · simp at hes
      split
      · rename_i i' v b hl
        intro r
        obtain ⟨es', m1, m2⟩ := hmap r
        obtain ⟨c1, res', c2, V, rfl, c4, c5, c6⟩ := lookupKey_sound S r hK hl m1
        refine ⟨if ok then .tuple #[V, .bool true] else V, ?_, ?_⟩
        · cases ok with
          | true => simp only [cond_true, if_true, VRel]; exact ⟨_, rfl, VRels.cons c4 (VRels.cons VRel.bool VRels.nil)⟩
          | false => exact c4
        · refine m2 _ ?_
          simp only [Sem.run_bind, c1, c2, Result.andThen_ok, Sem.run_pure]
      · rename_i hl
        intro r
        obtain ⟨es', m1, m2⟩ := hmap r
        obtain ⟨c1, res', c2, c3⟩ := lookupKey_sound S r hK hl m1
        subst c3
        refine ⟨if ok then .tuple #[zv, .bool false] else zv, ?_, ?_⟩
        · cases ok with
          | true => simp only [cond_true, if_true, VRel]; exact ⟨_, rfl, VRels.cons (ofV_rel ρ zv) (VRels.cons VRel.bool VRels.nil)⟩
          | false => exact ofV_rel ρ zv
        · refine m2 _ ?_
          simp only [Sem.run_bind, c1, c2, Result.andThen_ok, Sem.run_pure, hzr]
      · trivial
    · trivial
  · trivial
end Go.Proofs.YtfkpcifchgnmnaaGreatDoor.Ev
end

noncomputable section
namespace Go.Proofs.YtfkpcifchgnmnaaGreatDoor.Ev
variable {P : Program} {ρ : Emb} {h : H} {w : World} {e : Env} {tmps : Array Value}

theorem run_setMap {b : Nat} {es : Array MapEntry} {clock : Nat} (hb : w.heap[b]? = some (.map es clock)) (o : Obj) : (setObj b o).run P w = .ok () { w with heap := w.heap.setIfInBounds b o } := by simp [setObj, Sem.run, hb]
theorem EOk.of_put (r : WRel P ρ h w) {id : Nat} {ex : Ext} (he : ρ id = some ex) {o' : AObj} {h' : H} (hp : h.put id o' = some h') {x0 : Obj} (hx : w.heap[ex.block]? = some x0) (hc : ∀ c el f, x0 ≠ .cells c el f) (live : h.get id ≠ .none)
    {x : Obj} (ho : ORel P ρ ex (some x) o') {v : AV} {u : Value} (hv : VRel ρ v u) {f : Value → World → Prop} (hf : f u { w with heap := w.heap.setIfInBounds ex.block x }) (hxx : ∀ c el, x ≠ .cells c el (0, 0) := by (intro _ _ hh; cases hh)) : EOk P ρ h w f v h' := by
  obtain ⟨a, b⟩ := put_sound r he hp live (r.noRow he hx hc) ho hxx
  exact ⟨ρ, _, u, hf, a, hv, b⟩

theorem modify_toList {α : Type} {a : Array α} {i : Nat} {x : α} (hx : a[i]? = some x) (f : α → α) : (a.modify i f).toList = a.toList.set i (f x) := by
  obtain ⟨hlt, hv⟩ := Array.getElem?_eq_some_iff.1 hx
  apply List.ext_getElem?
  intro j
  by_cases hj : i = j
  · subst hj; simp [hlt, hv]
  · simp [hj]
theorem mapUpdate_sound (S : Sane P) (hE : ERel ρ e tmps) (t : Nat) (m k x : Operand) : UOk P ρ h w (Instr.mapUpdate t (ev tmps m) (ev tmps k) (ev tmps x)) (xMapUpdate P t m k x e h) := by
  have hM := eval_rel hE m
  have hK := eval_rel hE k
  have hX := eval_rel hE x
  unfold xMapUpdate
  split
  · rename_i kt et id hm hid
    have hu := S.desc (mapT_desc hm)
    rw [hid] at hM
    simp only [VRel] at hM
    obtain ⟨ex, he, hv⟩ := hM
    rw [hv]
    split
    · rename_i es clock hg
      split
      · rename_i i' v0 b hl
        rcases effO_eff (v := Ev.undef) (x := h.put id (.map (lset (eval e k, eval e x, b) i' es) clock)) with hf | ⟨h', hp, hf⟩
        · rw [hf]; trivial
        · rw [hf]
          intro r
          obtain ⟨o0, es', b1, b2⟩ := r.map he hg
          obtain ⟨c1, res', c2, V, rfl, c4, c5, c6⟩ := lookupKey_sound S r hK hl b2
          obtain ⟨xe, x1, x2, x3, x4⟩ := b2.get i' _ _ _ c5
          have x1' : es'[i']? = some xe := by simpa using x1
          have hs := stays (P := P) c6 x2 hK
          refine EOk.of_put r he hp b1 (by simp) (by rw [hg]; simp) (x := .map (es'.modify i' fun e => { e with key := ev tmps k, val := ev tmps x }) clock) ⟨o0, _, rfl, ?_⟩ VRel.undef ⟨rfl, ?_⟩
          · rw [lset_eq]
            have : (es'.modify i' fun e => { e with key := ev tmps k, val := ev tmps x }).toList = es'.toList.set i' { xe with key := ev tmps k, val := ev tmps x } := modify_toList x1' _
            rw [this]
            exact b2.set i' hK hX x4
          · unfold Instr.mapUpdate
            simp only [Sem.run_bind, run_underlying hu, Result.andThen_ok, run_getMap b1, c1, c2, x1', Option.map_some, Option.getD_some, hs, run_setMap b1]
      · rename_i hl
        rcases effO_eff (v := Ev.undef) (x := h.put id (.map (lapp es [(eval e k, eval e x, clock)]) (Nat.succ clock))) with hf | ⟨h', hp, hf⟩
        · rw [hf]; trivial
        · rw [hf]
          intro r
          obtain ⟨o0, es', b1, b2⟩ := r.map he hg
          obtain ⟨c1, res', c2, c3⟩ := lookupKey_sound S r hK hl b2
          subst c3
          refine EOk.of_put r he hp b1 (by simp) (by rw [hg]; simp) (x := .map (es'.push { key := ev tmps k, val := ev tmps x, born := clock }) (clock + 1)) ⟨o0, _, rfl, ?_⟩ VRel.undef ⟨rfl, ?_⟩
          · rw [lapp_eq, Array.toList_push]
            exact b2.append hK hX rfl
          · unfold Instr.mapUpdate
            simp only [Sem.run_bind, run_underlying hu, Result.andThen_ok, run_getMap b1, c1, c2, run_setMap b1]
      · trivial
    · trivial
  · trivial
theorem mapEntry_sound (S : Sane P) (hE : ERel ρ e tmps) (t : Nat) (m k : Operand) : VOk P ρ h w (Instr.mapEntry t (ev tmps m) (ev tmps k)) (xMapEntry P t m k e h) := by
  have hM := eval_rel hE m
  have hK := eval_rel hE k
  unfold xMapEntry
  split
  · rename_i kt et id hm hid
    have hu := S.desc (mapT_desc hm)
    rw [hid] at hM
    simp only [VRel] at hM
    obtain ⟨ex, he, hv⟩ := hM
    rw [hv]
    split
    · rename_i es clock hg
      split
      · rename_i i' v0 b hl
        rcases effO_eff (v := .tuple [v0, .int .i64 (.ofNat b)]) (x := h.put id (.map (lset (eval e k, v0, b) i' es) clock)) with hf | ⟨h', hp, hf⟩
        · rw [hf]; trivial
        · rw [hf]
          intro r
          obtain ⟨o0, es', b1, b2⟩ := r.map he hg
          obtain ⟨c1, res', c2, V, rfl, c4, c5, c6⟩ := lookupKey_sound S r hK hl b2
          obtain ⟨xe, x1, x2, x3, x4⟩ := b2.get i' _ _ _ c5
          have x1' : es'[i']? = some xe := by simpa using x1
          have hs := stays (P := P) c6 x2 hK
          refine EOk.of_put r he hp b1 (by simp) (by rw [hg]; simp) (x := .map (es'.modify i' fun e => { e with key := ev tmps k }) clock) ⟨o0, _, rfl, ?_⟩ (u := .tuple #[V, .int .i64 (b : Int)]) ?_ ?_
          · rw [lset_eq]
            have : (es'.modify i' fun e => { e with key := ev tmps k }).toList = es'.toList.set i' { xe with key := ev tmps k } := modify_toList x1' _
            rw [this]
            exact b2.set i' hK x3 x4
          · simp only [VRel]
            exact ⟨_, rfl, VRels.cons c4 (VRels.cons VRel.int VRels.nil)⟩
          · unfold Instr.mapEntry
            simp only [Sem.run_bind, run_underlying hu, Result.andThen_ok, run_getMap b1, c1, c2, x1', Option.map_some, Option.getD_some, hs, run_setMap b1, Sem.run_pure, x4]
            rfl
      · rename_i hl
        split
        · rename_i z hz
          obtain ⟨i, zv, a1, a2, rfl⟩ := zeroT_info hz
          have hzr : ∀ w, (zeroValue et).run P w = .ok zv w := fun w => by simp [zeroValue, typeInfo, S.info a1, a2]
          rcases effO_eff (v := .tuple [ofV zv, .int .i64 (.ofNat clock)]) (x := h.put id (.map (lapp es [(eval e k, ofV zv, clock)]) (Nat.succ clock))) with hf | ⟨h', hp, hf⟩
          · rw [hf]; trivial
          · rw [hf]
            intro r
            obtain ⟨o0, es', b1, b2⟩ := r.map he hg
            obtain ⟨c1, res', c2, c3⟩ := lookupKey_sound S r hK hl b2
            subst c3
            refine EOk.of_put r he hp b1 (by simp) (by rw [hg]; simp) (x := .map (es'.push { key := ev tmps k, val := zv, born := clock }) (clock + 1)) ⟨o0, _, rfl, ?_⟩ (u := .tuple #[zv, .int .i64 (clock : Int)]) ?_ ?_
            · rw [lapp_eq, Array.toList_push]
              exact b2.append hK (ofV_rel ρ zv) rfl
            · simp only [VRel]
              exact ⟨_, rfl, VRels.cons (ofV_rel ρ zv) (VRels.cons VRel.int VRels.nil)⟩
            · unfold Instr.mapEntry
              simp only [Sem.run_bind, run_underlying hu, Result.andThen_ok, run_getMap b1, c1, c2, hzr, run_setMap b1, Sem.run_pure]
              rfl
        · trivial
      · trivial
    · trivial
  · trivial
theorem storeBorn_sound {x : AV} {X : Value} (hX : VRel ρ x X) {b : Nat} : ∀ {es : List (AV × AV × Nat)} {es' : List MapEntry} {l : List (AV × AV × Nat)}, storeBorn x b es = some l → MRels ρ es es' →
    ∃ i, es'.findIdx? (fun e => (e.born : Int) == (b : Int)) = some i ∧ i < es'.length ∧ MRels ρ l (es'.modify i fun e => { e with val := X })
  | [], es', l, hs, hm => by change none = some l at hs; simp at hs
  | (k, v, c) :: es, es', l, hs, hm => by
    simp only [MRels] at hm
    obtain ⟨y, ys, rfl, a1, a2, a3, u⟩ := hm
    change cond (Nat.beq c b) (some ((k, x, c) :: es)) (match storeBorn x b es with | some l => some ((k, v, c) :: l) | none => none) = some l at hs
    cases hcb : Nat.beq c b with
    | true =>
      rw [hcb] at hs
      injection hs with hs; subst hs
      refine ⟨0, ?_, by simp, ?_⟩
      · simp [List.findIdx?_cons, a3, nbeq.1 hcb]
      · simp only [List.modify_cons, MRels]
        exact ⟨_, ys, rfl, a1, hX, a3, u⟩
    | false =>
      rw [hcb] at hs
      simp only [cond_false] at hs
      have hne : c ≠ b := fun hh => by rw [nbeq.2 hh] at hcb; simp at hcb
      split at hs
      · rename_i l' hl'
        injection hs with hs; subst hs
        obtain ⟨i, i1, i2, i3⟩ := storeBorn_sound hX hl' u
        refine ⟨i + 1, ?_, by simpa using i2, ?_⟩
        · have : ¬ ((y.born : Int) = (b : Int)) := by omega
          simp [List.findIdx?_cons, this, i1]
        · simp only [List.modify_succ_cons, MRels]
          exact ⟨y, _, rfl, a1, a2, a3, i3⟩
      · simp at hs
theorem entryStore_sound (hE : ERel ρ e tmps) (t : Nat) (m s x : Operand) : UOk P ρ h w (Instr.entryStore t (ev tmps m) (ev tmps s) (ev tmps x)) (xEntryStore t m s x e h) := by
  have hM := eval_rel hE m
  have hX := eval_rel hE x
  unfold xEntryStore
  split
  · rename_i id b hid hb
    obtain ⟨kk, hk⟩ := natOf_rel (eval_rel hE s) hb
    rw [hid] at hM
    simp only [VRel] at hM
    obtain ⟨ex, he, hv⟩ := hM
    rw [hv, hk]
    split
    · rename_i es clock hg
      split
      · rename_i l hl
        rcases effO_eff (v := Ev.undef) (x := h.put id (.map l clock)) with hf | ⟨h', hp, hf⟩
        · rw [hf]; trivial
        · rw [hf]
          intro r
          obtain ⟨o0, es', b1, b2⟩ := r.map he hg
          obtain ⟨i, i1, i2, i3⟩ := storeBorn_sound hX hl b2
          refine EOk.of_put r he hp b1 (by simp) (by rw [hg]; simp) (x := .map (es'.modify i fun e => { e with val := ev tmps x }) clock) ⟨o0, _, rfl, by simpa using i3⟩ VRel.undef ⟨rfl, ?_⟩
          have i1' : es'.findIdx? (fun e => (e.born : Int) == (b : Int)) = some i := by rw [show es'.findIdx? (fun e => (e.born : Int) == (b : Int)) = es'.toList.findIdx? (fun e => (e.born : Int) == (b : Int)) by cases es'; simp]; exact i1
          unfold Instr.entryStore
          simp only [Sem.run_bind, Result.andThen_ok, run_getMap b1, asInt, asIntOf, Sem.run_pure, i1', run_setMap b1]
      · trivial
    · trivial
  · trivial
theorem delete_sound (S : Sane P) {t t2 : Nat} {m k : AV} {M K : Value} (hM : VRel ρ m M) (hK : VRel ρ k K) (ts : Array TypeId) (ht : ts[0]? = some t) :
    VOk P ρ h w (Builtin.delete_ ts t2 #[M, K]) (deleteA P t m k h) := by
  unfold deleteA
  split
  · rename_i kt et hm
    have hu := S.desc (mapT_desc hm)
    split
    · trivial
    · rename_i id
      simp only [VRel] at hM
      obtain ⟨ex, he, rfl⟩ := hM
      split
      · rename_i es clock hg
        split
        · rename_i i' vb hl
          obtain ⟨v0, b⟩ := vb
          rcases effO_eff (v := .tuple []) (x := h.put id (.map (lerase i' es) clock)) with hf | ⟨h', hp, hf⟩
          · rw [hf]; trivial
          · rw [hf]
            intro r
            obtain ⟨o0, es', b1, b2⟩ := r.map he hg
            obtain ⟨c1, res', c2, V, rfl, c4, c5, c6⟩ := lookupKey_sound S r hK hl b2
            refine EOk.of_put r he hp b1 (by simp) (by rw [hg]; simp) (x := .map (es'.eraseIdxIfInBounds i') clock) ⟨o0, _, rfl, ?_⟩ VRel.nil_tuple ?_
            · rw [lerase_eq]
              have hlt : i' < es'.size := by
                have := (List.getElem?_eq_some_iff.1 c5).1
                have e1 := b2.length
                simp at e1; omega
              have : (es'.eraseIdxIfInBounds i').toList = es'.toList.eraseIdx i' := by simp [Array.eraseIdxIfInBounds, hlt]
              rw [this]
              exact b2.erase i'
            · unfold Builtin.delete_
              simp [ht, run_underlying hu, run_getMap b1, c1, c2, run_setMap b1]
        · rename_i hl
          intro r
          obtain ⟨o0, es', b1, b2⟩ := r.map he hg
          obtain ⟨c1, res', c2, c3⟩ := lookupKey_sound S r hK hl b2
          subst c3
          have hsame : w.heap.setIfInBounds ex.block (.map es' clock) = w.heap := by
            apply Array.ext_getElem?
            intro j
            by_cases hj : ex.block = j
            · subst hj
              have hlt := (Array.getElem?_eq_some_iff.1 b1).1
              rw [Array.getElem?_setIfInBounds_self_of_lt hlt, b1]
            · rw [Array.getElem?_setIfInBounds_ne hj]
          refine ⟨ρ, w, .tuple #[], ?_, Post.refl r, VRel.nil_tuple, rfl⟩
          unfold Builtin.delete_
          simp [ht, run_underlying hu, run_getMap b1, c1, c2, run_setMap b1, hsame]
        · trivial
      · trivial
    · trivial
  · trivial
end Go.Proofs.YtfkpcifchgnmnaaGreatDoor.Ev
end

noncomputable section
namespace Go.Proofs.YtfkpcifchgnmnaaGreatDoor.Ev
variable {P : Program} {ρ : Emb} {h : H} {w : World} {e : Env} {tmps : Array Value}

theorem range_sound (S : Sane P) (hE : ERel ρ e tmps) (t : Nat) (x : Operand) : VOk P ρ h w (Instr.range t (ev tmps x)) (xRange P t x e h) := by
  have hX := eval_rel hE x
  unfold xRange
  split
  · rename_i ke hm hx
    obtain ⟨k', e'⟩ := ke
    have hu := S.desc (mapT_desc hm)
    rw [hx] at hX
    simp only [VRel] at hX
    rw [hX]
    refine ⟨⟨fun _ _ _ _ h => (nomatch h), fun _ _ h => (nomatch h)⟩, .mapIter none 0 #[] 0, 0, 0, fun w' => ?_, fun ρ' b s => ⟨rfl, none, rfl, rfl⟩⟩
    unfold Instr.range
    simp [run_underlying hu, newC]
  · rename_i ke m hm hx
    obtain ⟨k', e'⟩ := ke
    have hu := S.desc (mapT_desc hm)
    rw [hx] at hX
    simp only [VRel] at hX
    obtain ⟨ex, he, hv⟩ := hX
    rw [hv]
    split
    · rename_i es clock hg
      intro r
      obtain ⟨o0, es', b1, b2⟩ := r.map he hg
      refine ⟨_, _, .pointer (some ⟨w.heap.size, 0, none⟩), ?_, Post.add r (.mapIter (some m) clock [] clock) (.mapIter (some ex.block) clock #[] clock) 0 0 (fun _ _ _ _ h => by cases h) (fun ρ' s _ => ⟨rfl, some ex.block, rfl, ex, s _ _ he, rfl⟩), ?_, ?_⟩
      · unfold Instr.range
        simp [run_underlying hu, run_getMap b1]
      · simp only [VRel]
        exact ⟨⟨w.heap.size, 0, 0, 0⟩, by simp, by simp⟩
      · exact H.ds_add h _
    · trivial
  · trivial

theorem run_getIter {b : Nat} {m : Option Nat} {since stepped : Nat} {seen : Array Nat} (hb : w.heap[b]? = some (.mapIter m since seen stepped)) : (getObj b).run P w = .ok (.mapIter m since seen stepped) w := by simp [getObj, Sem.run, hb]
theorem run_setIter {b : Nat} {m : Option Nat} {since stepped : Nat} {seen : Array Nat} (hb : w.heap[b]? = some (.mapIter m since seen stepped)) (o : Obj) : (setObj b o).run P w = .ok () { w with heap := w.heap.setIfInBounds b o } := by simp [setObj, Sem.run, hb]
theorem WRel.iter (r : WRel P ρ h w) {i : Nat} {ex : Ext} (he : ρ i = some ex) {m : Nat} {since stepped : Nat} {seen : List Nat} (ho : h.get i = .mapIter (some m) since seen stepped) :
    ex.off = 0 ∧ ∃ em, w.heap[ex.block]? = some (.mapIter (some em.block) since seen.toArray stepped) ∧ ρ m = some em := by
  have := r.obj i ex he
  rw [ho] at this
  obtain ⟨a, m', b, em, c, rfl⟩ := this
  exact ⟨a, em, b, c⟩
theorem WRel.iter0 (r : WRel P ρ h w) {i : Nat} {ex : Ext} (he : ρ i = some ex) {since stepped : Nat} {seen : List Nat} (ho : h.get i = .mapIter none since seen stepped) :
    ex.off = 0 ∧ w.heap[ex.block]? = some (.mapIter none since seen.toArray stepped) := by
  have := r.obj i ex he
  rw [ho] at this
  obtain ⟨a, m', b, rfl⟩ := this
  exact ⟨a, b⟩
theorem seen_contains (seen : List Nat) (b : Nat) : (List.rec (motive := fun _ => Bool) false (fun s _ q => cond (Nat.beq s b) true q) seen : Bool) = seen.contains b := by
  induction seen with
  | nil => rfl
  | cons s l ih =>
    simp only [List.contains_cons]
    rw [ih]
    cases hs : Nat.beq s b with
    | true => simp [nbeq.1 hs]
    | false =>
      have : ¬ b = s := fun hh => by subst hh; rw [Nat.beq_refl] at hs; simp at hs
      simp [this]
theorem unseen_rel {seen : List Nat} : ∀ {es : List (AV × AV × Nat)} {es' : List MapEntry}, MRels ρ es es' → MRels ρ (unseen seen es) (es'.filter fun e => !seen.toArray.contains e.born)
  | [], es', hm => by simp only [MRels] at hm; subst hm; exact rfl
  | (k, v, b) :: es, es', hm => by
    simp only [MRels] at hm
    obtain ⟨x, ys, rfl, a1, a2, a3, u⟩ := hm
    have ih := unseen_rel (seen := seen) u
    change MRels ρ (cond (List.rec (motive := fun _ => Bool) false (fun s _ q => cond (Nat.beq s b) true q) seen) (unseen seen es) ((k, v, b) :: unseen seen es)) _
    rw [seen_contains]
    simp only [List.filter_cons, a3, List.contains_toArray]
    simp only [List.contains_toArray] at ih
    cases hc : seen.contains b with
    | true => simpa [hc] using ih
    | false =>
      simp only [cond_false, Bool.not_false, if_true, MRels]
      exact ⟨x, _, rfl, a1, a2, a3, ih⟩
theorem allOld_rel {since : Nat} : ∀ {es : List (AV × AV × Nat)} {es' : List MapEntry}, allOld since es = true → MRels ρ es es' → ∀ x ∈ es', x.born < since
  | [], es', _, hm => by simp only [MRels] at hm; subst hm; simp
  | (k, v, b) :: es, es', ha, hm => by
    simp only [MRels] at hm
    obtain ⟨x, ys, rfl, a1, a2, a3, u⟩ := hm
    change cond (Nat.blt b since) (allOld since es) false = true at ha
    cases hb : Nat.blt b since with
    | false => rw [hb] at ha; simp at ha
    | true =>
      rw [hb] at ha
      intro y hy
      rcases List.mem_cons.1 hy with rfl | hy
      · have := nblt.1 hb; omega
      · exact allOld_rel ha u y hy
theorem nexts_cons (h : H) (id m since clock : Nat) (seen : List Nat) (x : AV × AV × Nat) (l : List (AV × AV × Nat)) : nexts h id m since clock seen (x :: l) =
    match h.put id (.mapIter (some m) since (lapp seen [x.2.2]) clock), l with
    | some h', [] => .eff (.tuple [.bool true, x.1, x.2.1]) h'
    | some h', _ :: _ => .choice (.tuple [.bool true, x.1, x.2.1]) h' (nexts h id m since clock seen l)
    | none, _ => .fail := by
  change (match h.put id (.mapIter (some m) since (lapp seen [x.2.2]) clock) with
      | some h' => List.rec (motive := fun _ => R) (.eff (.tuple [.bool true, x.1, x.2.1]) h') (fun _ _ _ => .choice (.tuple [.bool true, x.1, x.2.1]) h' (nexts h id m since clock seen l)) l
      | none => .fail) = _
  cases h.put id (.mapIter (some m) since (lapp seen [x.2.2]) clock) <;> cases l <;> rfl
theorem nexts_ok (r : WRel P ρ h w) {s : Sem Value} {id m since clock : Nat} {seen : List Nat} : ∀ (l : List (AV × AV × Nat)) (i : Nat) (k v : AV) (b : Nat), l[i]? = some (k, v, b) →
    (∀ h', h.put id (.mapIter (some m) since (lapp seen [b]) clock) = some h' → EOk P ρ h w (fun u w' => s.run P w = .ok u w') (.tuple [.bool true, k, v]) h') → VOk P ρ h w s (nexts h id m since clock seen l)
  | [], i, k, v, b, hi, _ => by simp at hi
  | x :: l, i, k, v, b, hi, hk => by
    rw [nexts_cons]
    cases hp : h.put id (.mapIter (some m) since (lapp seen [x.2.2]) clock) with
    | none => trivial
    | some h' =>
      cases i with
      | zero =>
        simp at hi
        subst hi
        cases l with
        | nil => exact fun _ => hk h' hp
        | cons y l => exact fun _ => .inl (hk h' hp)
      | succ i =>
        cases l with
        | nil => simp at hi
        | cons y l => exact fun _ => .inr (nexts_ok r (y :: l) i k v b (by simpa using hi) hk)
theorem run_choose_next {n : Nat} (hn : 1 ≤ n) (w : World) : ∃ i d, i < n ∧ (choose (.mapNext n)).run P w = .ok i { w with drawn := d } := by
  rw [run_choose]
  by_cases hf : (Question.mapNext n).forced = true
  · rw [if_pos hf]; exact ⟨0, w.drawn, by omega, rfl⟩
  · rw [if_neg hf]; exact ⟨_, w.drawn + 1, Nat.mod_lt _ (by omega), rfl⟩
/-- what the model does with an iterator whose map holds no entry younger than it -/
theorem run_next {b mb since stepped clock : Nat} {seen : Array Nat} {es left : Array MapEntry} (hb : w.heap[b]? = some (.mapIter (some mb) since seen stepped)) (hm : w.heap[mb]? = some (.map es clock))
    (hold : ∀ x ∈ es.toList, x.born < since) (hss : since ≤ stepped) (hleft : left = es.filter (fun e => !seen.contains e.born)) (ty : TypeId) :
    (left.isEmpty = true → (Instr.next (.pointer (some ⟨b, 0, none⟩)) false ty).run P w = .ok (.tuple #[.bool false]) w) ∧
    (∀ i d x, (choose (.mapNext left.size)).run P w = .ok i { w with drawn := d } → left[i]? = some x →
      (Instr.next (.pointer (some ⟨b, 0, none⟩)) false ty).run P w = .ok (.tuple #[.bool true, x.key, x.val]) { w with drawn := d, heap := w.heap.setIfInBounds b (.mapIter (some mb) since (seen.push x.born) clock) }) := by
  have h1 : left.filter (fun e => decide (e.born < since)) = left := by
    subst hleft
    apply Array.filter_eq_self.2
    intro a hx
    have : a ∈ es := (Array.mem_filter.1 hx).1
    simpa using hold a (by simpa using this)
  have h2 : left.filter (fun e => decide (e.born ≥ since)) = #[] := by
    subst hleft
    apply Array.filter_eq_empty_iff.2
    intro a hx
    have : a ∈ es := (Array.mem_filter.1 hx).1
    have := hold a (by simpa using this)
    simp; omega
  have h3 : (!seen.isEmpty && !es.isEmpty && es.all (fun e => decide (e.born ≥ stepped))) = false := by
    cases hes : es.isEmpty with
    | true => simp
    | false =>
      have : ∃ a, a ∈ es := by
        rcases Nat.eq_zero_or_pos es.size with h0 | h0
        · have : es = #[] := Array.eq_empty_of_size_eq_zero h0
          subst this; simp at hes
        · exact ⟨es[0], Array.getElem_mem h0⟩
      obtain ⟨a, ham⟩ := this
      have hlt := hold a (by simpa using ham)
      have : es.all (fun e => decide (e.born ≥ stepped)) = false := by
        rw [Bool.eq_false_iff]
        intro hall
        have := Array.all_eq_true'.1 hall a ham
        simp at this; omega
      simp [this]
  constructor
  · intro hl
    have hl' : left = #[] := by simpa using hl
    unfold Instr.next
    simp only [Sem.run_bind, run_getIter hb, Result.andThen_ok, run_getMap hm, h3, Bool.false_eq_true, if_false, ← hleft, h1, h2, Array.append_empty, hl']
    simp [Question.forced]
  · intro i d x hi hx
    have hl : left.isEmpty = false := by
      cases hh : left.isEmpty with
      | false => rfl
      | true =>
        have : left = #[] := by simpa using hh
        subst this; simp at hx
    unfold Instr.next
    simp only [Sem.run_bind, run_getIter hb, Result.andThen_ok, run_getMap hm, h3, Bool.false_eq_true, if_false, ← hleft, h1, h2, Array.append_empty, hl, Array.empty_append, Array.size_map, hi]
    have : (left.map some)[i]? = some (some x) := by simp [hx]
    simp only [this, Sem.run_bind]
    have hb' : ({ w with drawn := d } : World).heap[b]? = some (.mapIter (some mb) since seen stepped) := hb
    rw [run_setIter hb']
    rfl
theorem next_sound (hE : ERel ρ e tmps) (it : Operand) (s : Bool) (ty : Nat) : VOk P ρ h w (Instr.next (ev tmps it) s ty) (xNext it s e h) := by
  have hI := eval_rel hE it
  unfold xNext
  cases s with
  | true => trivial
  | false =>
    simp only [cond_false]
    split
    · rename_i id hid
      rw [hid] at hI
      obtain ⟨ex, he, hv⟩ := hI.ptr_inv
      rw [hv]
      split
      · rename_i since seen stepped hg
        intro r
        obtain ⟨o0, b1⟩ := r.iter0 he hg
        refine ⟨.tuple #[.bool false], by simp only [VRel]; exact ⟨_, rfl, VRels.cons VRel.bool VRels.nil⟩, ?_⟩
        simp [Instr.next, o0, run_getIter b1]
      · rename_i m since seen stepped hg
        split
        · rename_i es clock hm
          cases hc : cond (allOld since es) (Nat.ble since stepped) false with
          | false => trivial
          | true =>
            cases ha : allOld since es with
            | false => rw [ha] at hc; simp at hc
            | true =>
              rw [ha] at hc
              have hss := nble.1 (by simpa using hc)
              simp only [cond_true]
              have key : ∀ r : WRel P ρ h w, ∃ em es', ex.off = 0 ∧ ρ m = some em ∧ w.heap[ex.block]? = some (.mapIter (some em.block) since seen.toArray stepped) ∧ w.heap[em.block]? = some (.map es' clock) ∧ MRels ρ es es'.toList ∧ (∀ x ∈ es'.toList, x.born < since) ∧
                  MRels ρ (unseen seen es) (es'.filter (fun e => !seen.toArray.contains e.born)).toList := by
                intro r
                obtain ⟨o0, em, b1, b2⟩ := r.iter he hg
                obtain ⟨_, es', b3, b4⟩ := r.map b2 hm
                refine ⟨em, es', o0, b2, b1, b3, b4, allOld_rel ha b4, ?_⟩
                rw [Array.toList_filter]
                exact unseen_rel b4
              split
              · rename_i hu
                intro r
                obtain ⟨em, es', o0, c1, c2, c3, c4, c5, c6⟩ := key r
                rw [hu] at c6
                simp only [MRels] at c6
                refine ⟨.tuple #[.bool false], by simp only [VRel]; exact ⟨_, rfl, VRels.cons VRel.bool VRels.nil⟩, ?_⟩
                rw [o0]
                refine (run_next c2 c3 c5 hss rfl ty).1 ?_
                simpa using c6
              · rename_i x l hu
                have main : ∀ r : WRel P ρ h w, VOk P ρ h w (Instr.next (.pointer (some ⟨ex.block, ex.off + 0, none⟩)) false ty) (nexts h id m since clock seen (x :: l)) := by
                  intro r
                  obtain ⟨em, es', o0, c1, c2, c3, c4, c5, c6⟩ := key r
                  rw [hu] at c6
                  obtain ⟨L, hL⟩ : ∃ L, L = es'.filter (fun e => !seen.toArray.contains e.born) := ⟨_, rfl⟩
                  rw [← hL] at c6
                  have hlen : (x :: l).length = L.size := c6.length
                  have hn : 1 ≤ L.size := by rw [← hlen]; simp
                  obtain ⟨i, d, hi, hrun⟩ := run_choose_next (P := P) hn w
                  have hil : i < (x :: l).length := by rw [hlen]; exact hi
                  have hgi := List.getElem?_eq_getElem hil
                  generalize (x :: l)[i] = kvb at hgi
                  obtain ⟨k, v, b⟩ := kvb
                  obtain ⟨y, y1, y2, y3, y4⟩ := c6.get i k v b hgi
                  refine nexts_ok r _ i k v b hgi fun h' hp => ?_
                  have y1' : L[i]? = some y := by rw [← Array.getElem?_toList]; exact y1
                  have hfin := (run_next c2 c3 c5 hss hL ty).2 i d y hrun y1'
                  obtain ⟨p1, p2⟩ := put_sound r he hp (by rw [hg]; simp) (r.noRow he c2 (by simp)) (x := .mapIter (some em.block) since (seen.toArray.push y.born) clock)
                    ⟨o0, some em.block, by rw [lapp_eq, y4]; simp, em, c1, rfl⟩
                  refine ⟨ρ, _, .tuple #[.bool true, y.key, y.val], ?_, p1.drew d, ?_, p2⟩
                  · rw [o0]; exact hfin
                  · simp only [VRel]
                    exact ⟨_, rfl, VRels.cons VRel.bool (VRels.cons y2 (VRels.cons y3 VRels.nil))⟩
                rw [nexts_cons] at main ⊢
                cases hp : h.put id (.mapIter (some m) since (lapp seen [x.2.2]) clock) with
                | none => trivial
                | some h' =>
                  rw [hp] at main
                  cases l with
                  | nil => exact fun r => main r r
                  | cons y l => exact fun r => main r r
        · trivial
      · trivial
    · trivial
theorem llast_eq (l : List Nat) : llast l = l.getLast? := by
  induction l with
  | nil => rfl
  | cons x t ih =>
    change (match llast t with | none => some x | r => r) = _
    rw [ih]
    cases t with
    | nil => rfl
    | cons y t =>
      cases hh : (y :: t).getLast? with
      | none => simp at hh
      | some z => simp [List.getLast?_cons_cons, hh]
theorem findBorn_rel {b : Nat} : ∀ {es : List (AV × AV × Nat)} {es' : List MapEntry} {k v : AV} {c : Nat}, findBorn b es = some (k, v, c) → MRels ρ es es' → ∃ x, es'.find? (·.born == b) = some x ∧ VRel ρ k x.key ∧ VRel ρ v x.val
  | [], es', k, v, c, hf, hm => by change none = some _ at hf; simp at hf
  | (k', v', c') :: es, es', k, v, c, hf, hm => by
    simp only [MRels] at hm
    obtain ⟨x, ys, rfl, a1, a2, a3, u⟩ := hm
    change cond (Nat.beq c' b) (some (k', v', c')) (findBorn b es) = some (k, v, c) at hf
    cases hb : Nat.beq c' b with
    | true =>
      rw [hb] at hf
      simp only [cond_true, Option.some.injEq, Prod.mk.injEq] at hf
      obtain ⟨rfl, rfl, rfl⟩ := hf
      exact ⟨x, by simp [a3, nbeq.1 hb], a1, a2⟩
    | false =>
      rw [hb] at hf
      have hne : ¬ x.born = b := fun hh => by rw [← a3, hh] at hb; simp at hb
      obtain ⟨y, y1, y2⟩ := findBorn_rel (by simpa using hf) u
      exact ⟨y, by simp [hne, y1], y2⟩
theorem entry_sound (hE : ERel ρ e tmps) (it : Operand) : VOk P ρ h w (Instr.entry (ev tmps it)) (xEntry it e h) := by
  have hI := eval_rel hE it
  unfold xEntry
  split
  · rename_i id hid
    rw [hid] at hI
    obtain ⟨ex, he, hv⟩ := hI.ptr_inv
    rw [hv]
    split
    · rename_i m since seen stepped hg
      split
      · rename_i es clock b hm hl
        cases hc : Nat.beq clock stepped with
        | false => trivial
        | true =>
          have hcs := nbeq.1 hc
          simp only [cond_true]
          split
          · rename_i k v c hf
            intro r
            obtain ⟨o0, em, b1, b2⟩ := r.iter he hg
            obtain ⟨_, es', b3, b4⟩ := r.map b2 hm
            obtain ⟨x, x1, x2, x3⟩ := findBorn_rel hf b4
            refine ⟨.tuple #[x.key, x.val], by simp only [VRel]; exact ⟨_, rfl, VRels.cons x2 (VRels.cons x3 VRels.nil)⟩, ?_⟩
            rw [llast_eq] at hl
            have hback : seen.toArray.back? = some b := by simpa using hl
            have x1' : es'.find? (·.born == b) = some x := by rw [← x1]; cases es'; simp
            have hne : (clock != stepped) = false := by simp [hcs]
            unfold Instr.entry
            rw [o0]
            simp only [Sem.run_bind, Nat.add_zero, run_getIter b1, Result.andThen_ok, hback, run_getMap b3, hne, Bool.false_eq_true, if_false, x1', Sem.run_pure]
          · trivial
      · trivial
    · trivial
  · trivial
end Go.Proofs.YtfkpcifchgnmnaaGreatDoor.Ev
end

noncomputable section
namespace Go.Proofs.YtfkpcifchgnmnaaGreatDoor.Ev
variable {P : Program} {ρ : Emb} {h : H} {w : World} {e : Env} {tmps : Array Value}

/-! what is copied or appended -/
theorem run_firstCells_zero (sz : Nat) {X : Value} (hX : (∃ b l c, X = .slice b l c) ∨ ∃ s, X = .string s) (w : World) : (Builtin.firstCells sz 0 X).run P w = .ok #[] w := by
  rcases hX with ⟨b, l, c, rfl⟩ | ⟨s, rfl⟩
  · cases b <;> simp [Builtin.firstCells, loadCells, loadCellsFrom]
  · simp [Builtin.firstCells]
/-- what it is, wherever it is read -/
theorem srcOf_shape {sz : Nat} {x : AV} {X : Value} (hX : VRel ρ x X) {n : Nat} {cells : List AV} (hs : srcOf h sz x = some (n, cells)) :
    ((∃ b l c, X = .slice b l c) ∨ ∃ s, X = .string s) ∧ ∀ w', (Builtin.lenOf X).run P w' = .ok n w' := by
  cases x with
  | nils =>
    simp only [VRel] at hX; subst hX
    simp only [srcOf, Option.some.injEq, Prod.mk.injEq] at hs
    obtain ⟨rfl, _⟩ := hs
    exact ⟨.inl ⟨_, _, _, rfl⟩, fun _ => rfl⟩
  | str b =>
    simp only [VRel] at hX
    obtain ⟨s, rfl, hb⟩ := hX
    unfold srcOf at hs
    simp only at hs
    cases hz : Nat.beq sz 1 with
    | false => rw [hz] at hs; simp at hs
    | true =>
      rw [hz] at hs
      simp only [cond_true, Option.some.injEq, Prod.mk.injEq] at hs
      obtain ⟨rfl, _⟩ := hs
      refine ⟨.inr ⟨_, rfl⟩, fun w' => ?_⟩
      rw [llen_eq, ← hb]
      simp only [List.length_map, Array.length_toList]
      rfl
  | slice id off len cap =>
    have hn : n = len := by
      unfold srcOf at hs
      simp only at hs
      split at hs
      · simp only [Option.some.injEq, Prod.mk.injEq] at hs; exact hs.1.symm
      · simp at hs
    subst hn
    cases cap with
    | none => simp only [VRel] at hX; obtain ⟨_, _, _, _, rfl, _⟩ := hX; exact ⟨.inl ⟨_, _, _, rfl⟩, fun _ => rfl⟩
    | some c => simp only [VRel] at hX; obtain ⟨_, _, _, rfl, _⟩ := hX; exact ⟨.inl ⟨_, _, _, rfl⟩, fun _ => rfl⟩
  | _ => simp [srcOf] at hs

theorem ltake?_le {α : Type} {n k : Nat} {l r : List α} (h : ltake? n l = some r) (hk : k ≤ n) : ltake? k l = some (r.take k) := by
  induction k generalizing n l r with
  | zero => rfl
  | succ k ih =>
    cases n with
    | zero => omega
    | succ n =>
      cases l with
      | nil => change none = some r at h; simp at h
      | cons x t =>
        change Option.rec (motive := fun _ => Option (List α)) none (fun r => some (x :: r)) (ltake? n t) = some r at h
        show Option.rec (motive := fun _ => Option (List α)) none (fun r => some (x :: r)) (ltake? k t) = _
        cases ht : ltake? n t with
        | none => rw [ht] at h; simp at h
        | some r' =>
          rw [ht] at h
          simp only [Option.some.injEq] at h
          subst h
          rw [ih ht (by omega)]
          rfl
/-- a stretch of cells, each where it lies -/
theorem WRel.row (r : WRel P ρ h w) {i : Nat} {e : Ext} (he : ρ i = some e) {cs : List AV} {el sz p : Nat} (ho : h.get i = .arr cs el sz p) {off n : Nat} {l : List AV}
    (hl : ltake? n (ldrop off cs) = some l) :
    ∃ vs : List Value, VRels ρ l vs ∧ (∀ u ∈ vs, u.oneCell' = true) ∧ vs.length = n ∧ ∀ (j : Nat) (v : Value), vs[j]? = some v → w.cell? ((⟨e.block, e.off + off, none⟩ : Addr).add j) = some v := by
  rw [ldrop_eq] at hl
  obtain ⟨h1, h2⟩ := ltake?_some hl
  subst h2
  obtain ⟨c, hc, _, hcap, hsz, hcell⟩ := r.arr he ho
  simp at h1
  rcases Nat.eq_zero_or_pos n with h0 | h0
  · subst h0
    exact ⟨[], by simpa using VRels.nil, by simp, rfl, by simp⟩
  have key : ∀ k, k < n → ∃ a v, ((cs.drop off).take n)[k]? = some a ∧ ((c.toList.drop (e.off + off)).take n)[k]? = some v ∧ VRel ρ a v ∧ v.oneCell' = true := by
    intro k hk
    have hcs : off + k < cs.length := by omega
    obtain ⟨v', b1, b2, b3⟩ := hcell (off + k) cs[off + k] (List.getElem?_eq_getElem hcs)
    refine ⟨cs[off + k], v', ?_, ?_, b2, b3⟩
    · rw [List.getElem?_take_of_lt hk, List.getElem?_drop]; exact List.getElem?_eq_getElem hcs
    · rw [List.getElem?_take_of_lt hk, List.getElem?_drop]; simpa [Nat.add_assoc] using b1
  have hlen : ((c.toList.drop (e.off + off)).take n).length = n := by simp; omega
  refine ⟨(c.toList.drop (e.off + off)).take n, ?_, ?_, hlen, ?_⟩
  · refine VRels.of_get (by rw [hlen]; simp; omega) fun k a v ha hv => ?_
    have hk : k < n := by have := (List.getElem?_eq_some_iff.1 hv).1; omega
    obtain ⟨a', v', b1, b2, b3, _⟩ := key k hk
    rw [b1] at ha; rw [b2] at hv
    injection ha with ha; injection hv with hv
    subst ha; subst hv; exact b3
  · intro u hu
    obtain ⟨k, hk⟩ := List.getElem?_of_mem hu
    have hk' : k < n := by have := (List.getElem?_eq_some_iff.1 hk).1; omega
    obtain ⟨_, v', _, b2, _, b4⟩ := key k hk'
    rw [b2] at hk
    injection hk with hk; subst hk; exact b4
  · intro j v hv
    have hj : j < n := by have := (List.getElem?_eq_some_iff.1 hv).1; omega
    rw [List.getElem?_take_of_lt hj, List.getElem?_drop] at hv
    rw [add_at]
    simpa [World.cell?, hc] using hv
/-- a slice's cells -/
theorem readCells_sound (r : WRel P ρ h w) {id off len sz : Nat} {cap : Option Nat} {X : Value} (hX : VRel ρ (.slice id off len cap) X) {cells : List AV} (hs : readCells h id off (Nat.mul len sz) = some cells) :
    ∃ vs : List Value, VRels ρ cells vs ∧ (∀ u ∈ vs, u.oneCell' = true) ∧ vs.length = len * sz ∧
      ∀ k, k ≤ len → ∀ d, (Builtin.firstCells sz k X).run P { w with drawn := d } = .ok (vs.take (k * sz)).toArray { w with drawn := d } := by
  obtain ⟨ex, o, c, he, rfl, hlc, ho⟩ : ∃ ex o c, ρ id = some ex ∧ X = .slice (some ⟨ex.block, o, none⟩) len c ∧ len ≤ c ∧ (c = 0 ∨ o = ex.off + off) := by
    cases cap with
    | none => simp only [VRel] at hX; obtain ⟨ex, o, c, a1, a2, a3, _, a4⟩ := hX; exact ⟨ex, o, c, a1, a2, a3, a4⟩
    | some c => simp only [VRel] at hX; obtain ⟨ex, o, a1, a2, a3, a4⟩ := hX; exact ⟨ex, o, c, a1, a2, a3, a4⟩
  cases hn : Nat.mul len sz with
  | zero =>
    rw [hn] at hs
    change some [] = some cells at hs
    injection hs with hs
    subst hs
    refine ⟨[], VRels.nil, by simp, hn.symm, fun k hk d => ?_⟩
    have : k * sz = 0 := Nat.eq_zero_of_le_zero (Nat.le_trans (Nat.mul_le_mul_right sz hk) (Nat.le_of_eq hn))
    simp [Builtin.firstCells, this, loadCells, loadCellsFrom]
  | succ m =>
    rw [hn] at hs
    have hs' : (match h.get id with
      | .arr cs _ _ _ => ltake? (m + 1) (ldrop off cs)
      | _ => none) = some cells := hs
    have hlen : 0 < len := by
      rcases Nat.eq_zero_or_pos len with h0 | h0
      · subst h0; change 0 * sz = m + 1 at hn; simp at hn
      · exact h0
    have ho' : o = ex.off + off := by
      rcases ho with h0 | h0
      · omega
      · exact h0
    subst ho'
    cases hg : h.get id with
    | arr cs el sz' p =>
      rw [hg] at hs'
      simp only at hs'
      obtain ⟨vs, v1, v2, v3, v4⟩ := r.row he hg hs'
      refine ⟨vs, v1, v2, by rw [v3]; exact hn.symm, fun k hk d => ?_⟩
      have hk' : k * sz ≤ m + 1 := Nat.le_trans (Nat.mul_le_mul_right sz hk) (Nat.le_of_eq hn)
      refine run_firstCells_some { w with drawn := d } sz k _ len c (vs.take (k * sz)) (by simp; omega) fun j v hv => ?_
      have hj : j < k * sz := by have := (List.getElem?_eq_some_iff.1 hv).1; simp at this; omega
      rw [List.getElem?_take_of_lt hj] at hv
      exact v4 j v hv
    | _ => rw [hg] at hs'; simp at hs'
theorem srcOf_sound (r : WRel P ρ h w) {sz : Nat} {x : AV} {X : Value} (hX : VRel ρ x X) {n : Nat} {cells : List AV} (hs : srcOf h sz x = some (n, cells)) :
    ∃ vs : List Value, VRels ρ cells vs ∧ (∀ u ∈ vs, u.oneCell' = true) ∧ vs.length = n * sz ∧
      ∀ k, k ≤ n → ∀ d, (Builtin.firstCells sz k X).run P { w with drawn := d } = .ok (vs.take (k * sz)).toArray { w with drawn := d } := by
  cases x with
  | nils =>
    simp only [VRel] at hX; subst hX
    simp only [srcOf, Option.some.injEq, Prod.mk.injEq] at hs
    obtain ⟨rfl, rfl⟩ := hs
    exact ⟨[], VRels.nil, by simp, by simp, fun k hk d => by simp [Builtin.firstCells]⟩
  | str b =>
    simp only [VRel] at hX
    obtain ⟨s, rfl, hb⟩ := hX
    unfold srcOf at hs
    simp only at hs
    cases hz : Nat.beq sz 1 with
    | false => rw [hz] at hs; simp at hs
    | true =>
      rw [hz] at hs
      simp only [cond_true, Option.some.injEq, Prod.mk.injEq] at hs
      obtain ⟨rfl, rfl⟩ := hs
      have hz1 := nbeq.1 hz
      subst hz1
      refine ⟨s.data.toList.map fun b => Value.int .u8 b.toNat, ?_, ?_, ?_, fun k hk d => ?_⟩
      · rw [lmap_eq, ← hb, List.map_map]
        exact VRels.map_eval _ _ (fun x => by simp only [VRel, Function.comp]; rfl) _
      · intro u hu
        obtain ⟨_, _, rfl⟩ := List.mem_map.1 hu
        rfl
      · rw [llen_eq, ← hb]; simp
      · simp only [Builtin.firstCells, Sem.run_pure, Nat.mul_one]
        congr 1
        apply Array.ext'
        rw [← List.map_take]
        simp
  | slice id off len cap =>
    unfold srcOf at hs
    simp only at hs
    cases hr : readCells h id off (Nat.mul len sz) with
    | none => rw [hr] at hs; simp at hs
    | some l =>
      rw [hr] at hs
      simp only [Option.some.injEq, Prod.mk.injEq] at hs
      obtain ⟨rfl, rfl⟩ := hs
      exact readCells_sound r hX hr
  | _ => simp [srcOf] at hs

/-! append -/
theorem noInt_desc (S : Sane P) {t : Option Nat} (hn : noInt P t = true) : ∃ t' d, t = some t' ∧ P.underlying t' = some d ∧ ∀ k, d ≠ .int k := by
  unfold noInt at hn
  cases t with
  | none => simp at hn
  | some t =>
    simp only at hn
    cases hd : descT P t with
    | none => rw [hd] at hn; simp at hn
    | some d =>
      refine ⟨t, d, rfl, S.desc hd, fun k hk => ?_⟩
      subst hk
      rw [hd] at hn; simp at hn
theorem roomOk_info {el n : Nat} (hr : roomOk P el n = true) : ∃ i v, infoT P el = some i ∧ i.zero = some v ∧ v.cells.size = i.size ∧ n * i.bytes ≤ 140737488355328 ∧ n < 4611686018427387904 := by
  unfold roomOk at hr
  cases h1 : Nat.ble (Nat.mul n (bytesT P el)) 140737488355328 with
  | false => rw [h1] at hr; simp at hr
  | true =>
    cases h2 : Nat.blt n 4611686018427387904 with
    | false => rw [h1, h2] at hr; simp at hr
    | true =>
      rw [h1, h2] at hr
      cases h3 : zeroC P el with
      | none => rw [h3] at hr; simp at hr
      | some l =>
        obtain ⟨i, v, a1, a2, a3, a4, a5⟩ := zeroC_info h3
        have h1' := nble.1 h1
        have hb : bytesT P el = i.bytes := by unfold bytesT; rw [a1]
        rw [hb] at h1'
        refine ⟨i, v, a1, a2, ?_, h1', nblt.1 h2⟩
        have := (a4 (fun _ => none)).length
        rw [← a3, this]; simp
theorem noInt_match {d : TypeDesc} (hd : ∀ k, d ≠ .int k) : Builtin.append_.match_1 (fun _ => Bool) d (fun _ => true) (fun _ => false) = false :=
  Builtin.append_.match_1.eq_2 (fun _ => Bool) d (fun _ => true) (fun _ => false) (fun k hk => hd k hk)
theorem run_append_place {ts : Array TypeId} {t xt el ty : TypeId} {i : TypeInfo} {d : TypeDesc} (h0 : ts[0]? = some t) (h1 : ts[1]? = some xt) (hu : P.underlying t = some (.slice el)) (hx : P.underlying xt = some d) (hd : ∀ k, d ≠ .int k)
    (hi : P.info? el = some i) {base : Option Addr} {sLen sCap n : Nat} {X : Value} {new : Array Value} {w w' : World} (hl : (Builtin.lenOf X).run P w = .ok n w) (hf : (Builtin.firstCells i.size n X).run P w = .ok new w) (hle : sLen + n ≤ sCap)
    (hst : ∀ a, base = some a → (storeCells (a.add (sLen * i.size)) new.toList).run P w = .ok () w') (hnone : base = none → w' = w) :
    (Builtin.append_ ts ty #[.slice base sLen sCap, X]).run P w = .ok (.slice base (sLen + n) sCap) w' := by
  have hsz : (sizeOf el).run P w = .ok i.size w := by simp [sizeOf, typeInfo, hi]
  have g0 : (#[Value.slice base sLen sCap, X] : Array Value)[0]? = some (.slice base sLen sCap) := rfl
  have g1 : (#[Value.slice base sLen sCap, X] : Array Value)[1]? = some X := rfl
  unfold Builtin.append_
  simp only [h0, h1, g0, g1, Sem.run_bind, run_underlying hu, Result.andThen_ok, hsz, run_underlying hx, Sem.run_pure, noInt_match hd, Bool.false_eq_true, if_false]
  cases base with
  | none =>
    have := hnone rfl
    subst this
    simp [hl, hf, hle]
  | some a =>
    have := hst a rfl
    simp [hl, hf, hle, this]
theorem run_append_grown {ts : Array TypeId} {t xt el ty : TypeId} {i : TypeInfo} {d : TypeDesc} {z : Value} (h0 : ts[0]? = some t) (h1 : ts[1]? = some xt) (hu : P.underlying t = some (.slice el)) (hx : P.underlying xt = some d) (hd : ∀ k, d ≠ .int k)
    (hi : P.info? el = some i) (hz : i.zero = some z) {base : Option Addr} {sLen sCap n : Nat} {X : Value} {olds new : Array Value} {w : World} (hl : (Builtin.lenOf X).run P w = .ok n w)
    (hold : (Builtin.firstCells i.size sLen (.slice base sLen sCap)).run P w.drew = .ok olds w.drew) (hf : (Builtin.firstCells i.size n X).run P w.drew = .ok new w.drew) (hg : sCap < sLen + n) (h63 : sLen + n < 4611686018427387904) (hb : (sLen + n) * i.bytes ≤ 140737488355328) :
    (Builtin.append_ ts ty #[.slice base sLen sCap, X]).run P w = .ok (.slice (some ⟨w.heap.size, 0, none⟩) (sLen + n) (grownCap w (sLen + n) sCap el))
      (w.drew.alloc (.cells (olds ++ new ++ Builtin.zeroCells z.cells (grownCap w (sLen + n) sCap el - (sLen + n))) el)) := by
  have hn : ¬ (sLen + n ≤ sCap) := by omega
  have h63' : ¬ (9223372036854775807 < ((sLen : Int) + (n : Int))) := by omega
  have hfit := growslice_fits hg hb
  have h48' : ¬ (281474976710656 < Builtin.nextslicecap (sLen + n) sCap * i.bytes) := by omega
  have hsz : (sizeOf el).run P w = .ok i.size w := by simp [sizeOf, typeInfo, hi]
  have g0 : (#[Value.slice base sLen sCap, X] : Array Value)[0]? = some (.slice base sLen sCap) := rfl
  have g1 : (#[Value.slice base sLen sCap, X] : Array Value)[1]? = some X := rfl
  unfold Builtin.append_
  simp only [h0, h1, g0, g1, Sem.run_bind, run_underlying hu, Result.andThen_ok, hsz, run_underlying hx, Sem.run_pure, noInt_match hd, Bool.false_eq_true, if_false]
  simp [hl, hn, h63', h48', typeInfo, zeroValue, hi, hz, Question.forced, hold, hf, newRow, grownCap]
theorem grownCap_le (w : World) (need old : Nat) (el : TypeId) : need ≤ grownCap w need old el := by
  show need ≤ need + _
  omega
theorem zeroCells_size (z : Array Value) (n : Nat) : (Builtin.zeroCells z n).size = n * z.size := by simp [Builtin.zeroCells]
/-- a new row, with room behind it -/
theorem grown_sound (r : WRel P ρ h w) {cells : List AV} {vs : List Value} (hv : VRels ρ cells vs) (h1 : ∀ u ∈ vs, u.oneCell' = true) {el sz need cap peer d : Nat} {rest : Array Value} (hlen : vs.length = need * sz) (hrest : rest.size = (cap - need) * sz)
    (hcap : need ≤ cap) {c : Array Value} (hc : c = vs.toArray ++ rest) (hpeer : peer = 0 ∨ ∃ e', ρ peer = some e') : ∃ ρ', Post P ρ h w ρ' (h.add (.arr cells el sz peer)) { { w with heap := w.heap.push (.cells c el) } with drawn := d } ∧
      VRel ρ' (.slice h.next 0 need none) (.slice (some ⟨w.heap.size, 0, none⟩) need cap) := by
  have hm : need * sz + (cap - need) * sz = cap * sz := by rw [← Nat.add_mul]; congr 1; omega
  have hcs : c.size = cap * sz := by rw [hc]; simp [hlen, hrest, hm]
  have hle : need * sz ≤ cap * sz := Nat.mul_le_mul_right sz hcap
  refine ⟨_, (Post.add r (.arr cells el sz peer) (.cells c el) (cap * sz) sz (fun _ _ _ _ hh => by injection hh with _ _ _ hh; subst hh; exact hpeer) fun ρ' hs hn => ?_).drew d, ?_⟩
  · refine ⟨c, rfl, rfl, ?_, ?_, fun i a hi => ?_⟩
    · rw [hv.length, hlen]; exact hle
    · rw [hcs]; simp
    · obtain ⟨v, v1, v2⟩ := (hv.mono hs).get i a hi
      refine ⟨v, ?_, v2, h1 v (List.mem_of_getElem? v1)⟩
      have hil : i < vs.length := (List.getElem?_eq_some_iff.1 v1).1
      rw [hc]
      simp only [Nat.zero_add]
      rw [Array.getElem?_append_left (by simpa using hil)]
      simpa using v1
  · simp only [VRel]
    exact ⟨⟨w.heap.size, 0, cap * sz, sz⟩, 0, cap, by simp, rfl, hcap, by simp, .inr rfl⟩

/-- a row is written beyond what is known of it: two objects lie there now -/
theorem inplace_sound (r : WRel P ρ h w) {id : Nat} {ex : Ext} (he : ρ id = some ex) {cs : List AV} {el sz p : Nat} (ho : h.get id = .arr cs el sz p) {h₁ : H} (hk : killPeer h p = some h₁) {o2 : AObj} {h₂ : H} (hp : h₁.put id o2 = some h₂)
    {off len n c peer : Nat} (ho2 : o2 = .none ∨ (o2 = .arr cs el sz h.next ∧ peer = id ∧ cs.length ≤ off + len * sz)) (hcap : off + c * ex.sz = ex.cap) (hneed : len + n ≤ c)
    {old cells : List AV} (hold : ltake? (len * sz) (ldrop off cs) = some old ∨ (len * sz = 0 ∧ old = [])) {vs : List Value} (hv : VRels ρ cells vs) (h1 : ∀ u ∈ vs, u.oneCell' = true) (hl : vs.length = n * sz) (hpz : peer = 0 ∨ ∃ e', ρ peer = some e') :
    ∃ ρ' w', (storeCells ⟨ex.block, ex.off + off + len * sz, none⟩ vs).run P w = .ok () w' ∧ Post P ρ h w ρ' (h₂.add (.arr (old ++ cells) el sz peer)) w' ∧ h₂.next = h.next ∧ h₂.ds = h.ds ∧
      ρ' h.next = some ⟨ex.block, ex.off + off, ex.cap - off, sz⟩ := by
  obtain ⟨k0, k3, k1, k2⟩ := killPeer_post r he ho hk
  have alone := alone_of_kill r he ho hk
  obtain ⟨p1, p2, p3, p4, p5⟩ := H.put_some hp
  have hknext : h₁.next = h.next := by
    cases p with
    | zero => change some h = some h₁ at hk; injection hk with hk; rw [← hk]
    | succ p => exact (H.put_some hk).2.1
  obtain ⟨c0, c1, c2, c3, c4, c5⟩ := r.arr he ho
  have hszc : (len + n) * sz ≤ c * sz := Nat.mul_le_mul_right sz hneed
  rw [Nat.add_mul] at hszc
  rw [c2] at hcap
  have hrun := run_storeCells_at P ex.block (ex.off + off + len * sz) el vs 0 c0 w c1 (by omega) h1
  generalize hc' : (c0.toList.take (ex.off + off + len * sz + 0) ++ vs ++ c0.toList.drop (ex.off + off + len * sz + 0 + vs.length)).toArray = c' at hrun
  have hget : ∀ k, c'[k]? = if ex.off + off + len * sz ≤ k ∧ k < ex.off + off + len * sz + vs.length then vs[k - (ex.off + off + len * sz)]? else c0[k]? := by
    intro k
    rw [← hc']
    simp only [List.getElem?_toArray]
    have hcl : ex.off + off + len * sz + vs.length ≤ c0.toList.length := by simp; omega
    have := lover_get vs (ex.off + off + len * sz) c0.toList hcl k
    rw [lover_eq vs _ _ hcl] at this
    simpa using this
  have hsize : c'.size = c0.size := by
    rw [← hc']; simp; omega
  have holdlen : old.length = len * sz := by
    rcases hold with hh | ⟨h0, rfl⟩
    · obtain ⟨a1, a2⟩ := ltake?_some hh
      rw [a2, ldrop_eq] at *
      simp at a1 ⊢; omega
    · simpa using h0.symm
  have holdget : ∀ k a, old[k]? = some a → cs[off + k]? = some a := by
    intro k a hka
    rcases hold with hh | ⟨h0, rfl⟩
    · obtain ⟨a1, a2⟩ := ltake?_some hh
      have hkl : k < len * sz := by rw [← holdlen]; exact (List.getElem?_eq_some_iff.1 hka).1
      rw [a2, ldrop_eq, List.getElem?_take_of_lt hkl, List.getElem?_drop] at hka
      exact hka
    · simp at hka
  have hsub : Sub ρ (fun i => if i = h.next then some ⟨ex.block, ex.off + off, ex.cap - off, sz⟩ else ρ i) := by
    intro i e he'
    have := (r.dom i e he').2.1
    simp only []
    rw [if_neg (by omega)]; exact he'
  have hidn : id < h.next := (r.dom id ex he).2.1
  have hother : ∀ b, b ≠ ex.block → (w.setRow ex.block c').heap[b]? = w.heap[b]? := fun b hb => setRow_other w ex.block b c' hb
  have hrow : (w.setRow ex.block c').heap[ex.block]? = some (.cells c' el (0, 0)) := setRow_heap w ex.block c0 c' el _ c1
  have g2 : ∀ i, h₂.get i = if i = id then o2 else h₁.get i := p5
  have hnext2 : h₂.next = h.next := by rw [p2, hknext]
  refine ⟨_, _, hrun, ⟨hsub, ?_, ⟨?_, ?_, ?_, ?_, ?_, ?_, fun i hi => by
    rw [H.next_add, hnext2] at hi
    rw [H.get_add, hnext2, if_neg (by omega), g2, if_neg (by omega)]
    exact k0.rel.above i (by omega)⟩, ⟨by simp, ?_, rfl, rfl, rfl⟩, ?_, ?_, ?_, ?_, ?_⟩, hnext2, by rw [p4, k3], if_pos rfl⟩
  · intro i e hi
    try simp only [] at hi
    split at hi
    · exact .inr (by omega)
    · exact .inl hi
  · intro i e hi
    rw [H.next_add, hnext2]
    try simp only [] at hi
    split at hi
    · injection hi with hi; subst hi; subst i
      exact ⟨r.pos, by omega, by simpa using (r.dom id ex he).2.2⟩
    · have := r.dom i e hi
      simp; omega
  · intro i e hi
    rw [H.get_add, hnext2]
    try simp only [] at hi
    split at hi
    · rename_i hin
      injection hi with hi; subst hi
      rw [if_pos hin]
      refine ⟨c', hrow, rfl, ?_, ?_, fun k a hk' => ?_⟩
      · simp only [List.length_append, holdlen, hv.length, hl]; omega
      · simp only [hsize]; omega
      · simp only []
        rcases Nat.lt_or_ge k (len * sz) with hlt | hge
        · rw [List.getElem?_append_left (by omega)] at hk'
          obtain ⟨v, v1, v2, v3⟩ := c5 _ _ (holdget _ _ hk')
          refine ⟨v, ?_, v2.mono hsub, v3⟩
          rw [hget, if_neg (by omega), Nat.add_assoc]; exact v1
        · rw [List.getElem?_append_right (by omega), holdlen] at hk'
          obtain ⟨v, v1, v2⟩ := hv.get _ _ hk'
          have hkv : k - len * sz < vs.length := (List.getElem?_eq_some_iff.1 v1).1
          refine ⟨v, ?_, v2.mono hsub, h1 v (List.mem_of_getElem? v1)⟩
          rw [hget, if_pos (by omega)]
          rw [show ex.off + off + k - (ex.off + off + len * sz) = k - len * sz by omega]; exact v1
    · rename_i hin
      rw [if_neg hin, g2]
      by_cases hid : i = id
      · subst hid
        rw [he] at hi; injection hi with hi; subst hi
        rw [if_pos rfl]
        rcases ho2 with rfl | ⟨rfl, _, hcl⟩
        · trivial
        · refine ⟨c', hrow, c2, c3, by rw [hsize]; exact c4, fun k a hk' => ?_⟩
          have hkl : k < cs.length := (List.getElem?_eq_some_iff.1 hk').1
          obtain ⟨v, v1, v2, v3⟩ := c5 _ _ hk'
          refine ⟨v, ?_, v2.mono hsub, v3⟩
          rw [hget, if_neg (by omega)]; exact v1
      · rw [if_neg hid]
        by_cases hb : e.block = ex.block
        · rw [alone i e hi hid hb]; trivial
        · rw [hother _ hb]; exact (k0.rel.obj i e hi).mono hsub
  · intro i j ei ej hi hj hne hb
    try simp only [] at hi hj
    rw [H.get_add, H.get_add, hnext2]
    by_cases hin : i = h.next
    · rw [if_pos hin] at hi
      injection hi with hi; subst hi
      rw [if_neg (by omega)] at hj
      have hjn : j ≠ h.next := by omega
      rw [if_neg hjn]
      by_cases hjid : j = id
      · rw [g2 j, if_pos hjid]
        rcases ho2 with rfl | ⟨rfl, rfl, hcl⟩
        · exact .inr (.inl rfl)
        · refine .inr (.inr ⟨old ++ cells, el, sz, cs, el, sz, ?_, ?_⟩)
          · rw [H.get_add, hnext2, if_pos hin, hjid]
          · rw [H.get_add, hnext2, if_neg hjn, g2, if_pos hjid, hin]
      · rw [g2 j, if_neg hjid]
        exact .inr (.inl (alone j ej hj hjid hb.symm))
    · rw [if_neg hin] at hi
      rw [if_neg hin]
      by_cases hjn : j = h.next
      · rw [if_pos hjn] at hj
        injection hj with hj; subst hj
        rw [g2]
        by_cases hiid : i = id
        · rw [if_pos hiid]
          rcases ho2 with rfl | ⟨rfl, rfl, hcl⟩
          · exact .inl rfl
          · refine .inr (.inr ⟨cs, el, sz, old ++ cells, el, sz, ?_, ?_⟩)
            · rw [H.get_add, hnext2, if_neg hin, g2, if_pos hiid, hjn]
            · rw [H.get_add, hnext2, if_pos hjn, hiid]
        · rw [if_neg hiid]
          exact .inl (alone i ei hi hiid hb)
      · rw [if_neg hjn] at hj
        rw [if_neg hjn]
        by_cases hiid : i = id
        · subst hiid
          rw [he] at hi; injection hi with hi; subst hi
          rw [g2, g2, if_neg (Ne.symm hne)]
          exact .inr (.inl (alone j ej hj (Ne.symm hne) hb.symm))
        · by_cases hjid : j = id
          · subst hjid
            rw [he] at hj; injection hj with hj; subst hj
            rw [g2, if_neg hiid]
            exact .inl (alone i ei hi hiid hb)
          · rw [g2, g2, if_neg hiid, if_neg hjid]
            rcases k0.rel.sep i j ei ej hi hj hne hb with a | a | a
            · exact .inl a
            · exact .inr (.inl a)
            · obtain ⟨x1, x2, x3, x4, x5, x6, b1, b2⟩ := a
              refine .inr (.inr ⟨x1, x2, x3, x4, x5, x6, ?_, ?_⟩)
              · rw [H.get_add, hnext2, if_neg hin, g2, if_neg hiid]; exact b1
              · rw [H.get_add, hnext2, if_neg hjn, g2, if_neg hjid]; exact b2
  · rw [H.lo_add, H.next_add, p3, k0.lo, hnext2]; have := r.low; omega
  · rw [H.next_add]; omega
  · intro i e hi
    try simp only [] at hi
    rw [H.get_add, hnext2]
    split at hi
    · rename_i hin
      rw [if_pos hin]
      intro _ _ _ q hh
      injection hh with _ _ _ hh
      subst hh
      rcases ho2 with _ | ⟨_, rfl, _⟩
      · exact hpz.imp (fun x => x) fun ⟨e', he'⟩ => ⟨e', hsub _ _ he'⟩
      · exact .inr ⟨ex, hsub _ _ he⟩
    · rename_i hin
      rw [if_neg hin, g2]
      by_cases hid : i = id
      · rw [if_pos hid]
        rcases ho2 with rfl | ⟨rfl, _, _⟩
        · exact PeerIn.none
        · intro _ _ _ q hh
          injection hh with _ _ _ hh
          subst hh
          exact .inr ⟨_, if_pos rfl⟩
      · rw [if_neg hid]; exact (k0.rel.peer i e hi).mono hsub
  · intro b hb hf
    exact hother b (fun hbe => hf ⟨id, ex, he, by rw [ho]; simp, hbe.symm⟩)
  · intro b hb
    obtain ⟨i, e, hi, hg, heb⟩ := hb
    left
    simp only [] at hi
    rw [H.get_add, hnext2] at hg
    split at hi
    · injection hi with hi; subst hi
      exact ⟨id, ex, he, by rw [ho]; simp, heb⟩
    · rename_i hin
      rw [if_neg hin, g2] at hg
      by_cases hid : i = id
      · subst hid
        exact ⟨i, e, hi, by rw [ho]; simp, heb⟩
      · rw [if_neg hid] at hg
        exact (k0.foot b ⟨i, e, hi, hg, heb⟩).elim (fun x => x) fun hle => absurd (r.dom i e hi).2.2 (by omega)
  · rw [H.lo_add, p3, k0.lo]
  · intro i hi
    have := r.low
    rw [H.get_add, hnext2, if_neg (by omega), g2, if_neg (by have := k0.lo; omega)]
    exact k0.old i hi
  · rw [H.next_add]; omega
  · intro i hi hr
    have hid : i ≠ id := fun hh => by rw [hh, he] at hr; cases hr
    rw [H.get_add, hnext2, if_neg (by omega), g2, if_neg hid]
    exact k0.off i hi hr
end Go.Proofs.YtfkpcifchgnmnaaGreatDoor.Ev
end

noncomputable section
namespace Go.Proofs.YtfkpcifchgnmnaaGreatDoor.Ev
variable {P : Program} {ρ : Emb} {h : H} {w : World} {e : Env} {tmps : Array Value}

theorem readCells_cases {id off m : Nat} {cells : List AV} (hs : readCells h id off m = some cells) {cs : List AV} {el sz p : Nat} (hg : h.get id = .arr cs el sz p) :
    ltake? m (ldrop off cs) = some cells ∨ (m = 0 ∧ cells = []) := by
  cases m with
  | zero =>
    change some [] = some cells at hs
    injection hs with hs
    exact .inr ⟨rfl, hs.symm⟩
  | succ m =>
    have hs' : (match h.get id with
      | .arr cs _ _ _ => ltake? (m + 1) (ldrop off cs)
      | _ => none) = some cells := hs
    rw [hg] at hs'
    exact .inl hs'
theorem WRel.ext {h' : H} (hg : ∀ i, h'.get i = h.get i) (hn : h'.next = h.next) (hl : h'.lo = h.lo) (r : WRel P ρ h w) : WRel P ρ h' w :=
  ⟨fun i e he => by rw [hn]; exact r.dom i e he, fun i e he => by rw [hg]; exact r.obj i e he, fun i j ei ej hi hj hne hb => by simp only [Peers, hg]; exact r.sep i j ei ej hi hj hne hb,
   by rw [hl, hn]; exact r.low, by rw [hn]; exact r.pos, fun i e he => by rw [hg]; exact r.peer i e he, fun i hi => by rw [hg]; exact r.above i (by rw [hn] at hi; exact hi)⟩
theorem Post.ext {ρ0 : Emb} {h0 : H} {w0 : World} {h' : H} (hg : ∀ i, h'.get i = h.get i) (hn : h'.next = h.next) (hl : h'.lo = h.lo) (p : Post P ρ0 h0 w0 ρ h w) : Post P ρ0 h0 w0 ρ h' w :=
  ⟨p.sub, p.fresh, p.rel.ext hg hn hl, p.keep, fun b ⟨i, e, he, hne, hb⟩ => p.foot b ⟨i, e, he, by rw [← hg]; exact hne, hb⟩, by rw [hl]; exact p.lo, fun i hi => by rw [hg]; exact p.old i hi, by rw [hn]; exact p.next,
   fun i hi hr => by rw [hg]; exact p.off i hi hr⟩
theorem H.put_of_le (h : H) (id : Nat) (o : AObj) (hl : h.lo ≤ id) : ∃ h', h.put id o = some h' := by
  obtain ⟨tr, next, lo, ds⟩ := h
  change ∃ h', Bool.rec (motive := fun _ => Option H) none (some ⟨tr.set .none o (pathOf id), next, lo, ds⟩) (Nat.ble lo id) = some h'
  rw [nble.2 hl]
  exact ⟨_, rfl⟩
/-- append to a slice whose room is not known -/
theorem grow_open {s : Sem Value} (r : WRel P ρ h w) {id : Nat} {ex : Ext} (he : ρ id = some ex) {cs : List AV} {el sz p : Nat} (hg : h.get id = .arr cs el sz p) {h₁ : H} (hk : killPeer h p = some h₁) {o2 : AObj} {h₂ : H} (hp : h₁.put id o2 = some h₂)
    {off len n c np : Nat} (ho2 : o2 = .none ∨ (o2 = .arr cs el sz h.next ∧ np = id ∧ cs.length ≤ off + len * sz)) (hcap : off + c * ex.sz = ex.cap)
    {old cells : List AV} (hold : readCells h id off (len * sz) = some old) {vs : List Value} (hv : VRels ρ cells vs) (h1 : ∀ u ∈ vs, u.oneCell' = true) (hl : vs.length = n * sz)
    (hpz : np = 0 ∨ ∃ e', ρ np = some e') (hplace : len + n ≤ c → ∀ w', (storeCells ⟨ex.block, ex.off + off + len * sz, none⟩ vs).run P w = .ok () w' → s.run P w = .ok (.slice (some ⟨ex.block, ex.off + off, none⟩) (len + n) c) w')
    (hgrow : ¬ (len + n ≤ c) → ∃ (olds : List Value) (cap : Nat) (rest : Array Value) (d : Nat), VRels ρ old olds ∧ (∀ u ∈ olds, u.oneCell' = true) ∧ olds.length = len * sz ∧ rest.size = (cap - (len + n)) * sz ∧ len + n ≤ cap ∧
      s.run P w = .ok (.slice (some ⟨w.heap.size, 0, none⟩) (len + n) cap) { { w with heap := w.heap.push (.cells ((olds ++ vs).toArray ++ rest) el) } with drawn := d }) :
    EOk P ρ h w (fun u w' => s.run P w = .ok u w') (.slice h₂.next 0 (len + n) none) (h₂.add (.arr (old ++ cells) el sz np)) := by
  by_cases hroom : len + n ≤ c
  · obtain ⟨ρ', w', a1, a2, a3, a4, a5⟩ := inplace_sound r he hg hk hp ho2 hcap hroom (readCells_cases hold hg) hv h1 hl hpz
    refine ⟨ρ', w', _, hplace hroom w' a1, a2, ?_, by rw [H.ds_add, a4]⟩
    rw [a3]
    obtain ⟨_, _, c2, _⟩ := r.arr he hg
    simp only [VRel]
    refine ⟨_, ex.off + off, c, a5, rfl, hroom, ?_, .inr rfl⟩
    simp only []
    rw [c2] at hcap
    omega
  · obtain ⟨olds, cap, rest, d, b1, b2, b3, b4, b5, b6⟩ := hgrow hroom
    obtain ⟨k0, k3, k1, k2⟩ := killPeer_post r he hg hk
    obtain ⟨p1, p2, p3, p4, p5⟩ := H.put_some hp
    have halone := alone_of_kill r he hg hk
    have knext : h₁.next = h.next := by
      cases p with
      | zero => change some h = some h₁ at hk; injection hk with hk; rw [← hk]
      | succ p => exact (H.put_some hk).2.1
    have hdom := r.dom id ex he
    obtain ⟨ρ', a1, a2⟩ := grown_sound k0.rel (b1.append hv) (by intro u hu; rcases List.mem_append.1 hu with hu | hu; exact b2 u hu; exact h1 u hu) (el := el) (sz := sz) (need := len + n) (cap := cap) (peer := np) (d := d) (rest := rest)
      (by rw [List.length_append, b3, hl, Nat.add_mul]) b4 b5 rfl hpz
    obtain ⟨en, hen, hbn⟩ : ∃ e, ρ' h₁.next = some e ∧ e.block = w.heap.size := by
      simp only [VRel] at a2
      obtain ⟨e, o, c, c1, c2, _⟩ := a2
      injection c2 with c2
      injection c2 with c2
      injection c2 with c2
      exact ⟨e, c1, c2.symm⟩
    have hidn : id ≠ h₁.next := by omega
    obtain ⟨h₃, hp3⟩ := H.put_of_le (h₁.add (.arr (old ++ cells) el sz np)) id o2 (by rw [H.lo_add]; exact p1)
    obtain ⟨q1, q2, q3, q4, q5⟩ := H.put_some hp3
    have hblk : ({ { w with heap := w.heap.push (.cells ((olds ++ vs).toArray ++ rest) el) } with drawn := d } : World).heap[ex.block]? = w.heap[ex.block]? := by
      simp only [Array.getElem?_push]
      rw [if_neg (by omega)]
    have hrel3 := a1.rel.set (a1.sub _ _ he) hp3 (fun j ej hj hne hb => by
        have hdj := a1.rel.dom j ej hj
        rw [H.next_add] at hdj
        rcases a1.fresh j ej hj with h4 | h4
        · have := (k0.rel.dom j ej h4).2.1
          rw [H.get_add, if_neg (by omega)]
          exact halone j ej h4 hne hb
        · have : j = h₁.next := by omega
          subst this
          rw [hen] at hj; injection hj with hj; subst hj
          omega) rfl (fun _ _ => rfl) (o' := o2) (by
        rw [hblk]
        rcases ho2 with rfl | ⟨rfl, _, _⟩
        · trivial
        · exact ORel.mono (a1.sub) (o := .arr cs el sz h.next) (r.arr he hg)) (by
        rcases ho2 with rfl | ⟨rfl, _, _⟩
        · exact PeerIn.none
        · intro _ _ _ q hh
          injection hh with _ _ _ hh
          subst hh
          rw [← knext]
          exact .inr ⟨_, hen⟩)
    have k4 := k0.trans a1
    have hpost3 : Post P ρ h w ρ' h₃ { { w with heap := w.heap.push (.cells ((olds ++ vs).toArray ++ rest) el) } with drawn := d } := by
      refine ⟨a1.sub, k4.fresh, hrel3, k4.keep, fun b ⟨i, e, hi, hne, hb⟩ => ?_, by rw [q3]; exact k4.lo, fun i hi => ?_, by rw [q2]; exact k4.next, fun i hi hr => ?_⟩
      · by_cases hid : i = id
        · subst hid
          rw [a1.sub _ _ he] at hi; injection hi with hi; subst hi
          exact .inl ⟨i, ex, he, by rw [hg]; simp, hb⟩
        · rw [q5, if_neg hid] at hne
          exact k4.foot b ⟨i, e, hi, hne, hb⟩
      · have := k0.lo
        rw [q5, if_neg (by omega)]
        exact k4.old i hi
      · have hid : i ≠ id := fun hh => by rw [hh, he] at hr; cases hr
        rw [q5, if_neg hid]
        exact k4.off i hi hr
    have hfin := hpost3.ext (h' := h₂.add (.arr (old ++ cells) el sz np)) (fun i => by
        rw [H.get_add, p2, p5, q5, H.get_add]
        by_cases h4 : i = h₁.next
        · subst h4; rw [if_pos rfl, if_neg (Ne.symm hidn), if_pos rfl]
        · rw [if_neg h4, if_neg h4]) (by rw [H.next_add, p2, q2, H.next_add]) (by rw [H.lo_add, p3, q3, H.lo_add])
    refine ⟨ρ', _, _, b6, hfin, ?_, by rw [H.ds_add, p4, k3]⟩
    rw [p2]
    exact a2

theorem slice_inv {id off len : Nat} {cap : Option Nat} {X : Value} (hX : VRel ρ (.slice id off len cap) X) :
    ∃ ex o c, ρ id = some ex ∧ X = .slice (some ⟨ex.block, o, none⟩) len c ∧ len ≤ c ∧ (c = 0 ∨ o = ex.off + off) ∧ (cap = some c ∨ (cap = none ∧ off + c * ex.sz = ex.cap)) := by
  cases cap with
  | none => simp only [VRel] at hX; obtain ⟨ex, o, c, a1, a2, a3, a5, a4⟩ := hX; exact ⟨ex, o, c, a1, a2, a3, a4, .inr ⟨rfl, a5⟩⟩
  | some c => simp only [VRel] at hX; obtain ⟨ex, o, a1, a2, a3, a4⟩ := hX; exact ⟨ex, o, c, a1, a2, a3, a4, .inl rfl⟩
theorem slice_mk {id off len : Nat} {cap : Option Nat} {ex : Ext} {o c : Nat} (he : ρ id = some ex) (hlc : len ≤ c) (ho : c = 0 ∨ o = ex.off + off) (hcap : cap = some c ∨ (cap = none ∧ off + c * ex.sz = ex.cap)) :
    VRel ρ (.slice id off len cap) (.slice (some ⟨ex.block, o, none⟩) len c) := by
  rcases hcap with rfl | ⟨rfl, hc⟩
  · simp only [VRel]; exact ⟨ex, o, he, rfl, hlc, ho⟩
  · simp only [VRel]; exact ⟨ex, o, c, he, rfl, hlc, hc, ho⟩

/-- how much room there is at least -/
theorem capLow_le (r : WRel P ρ h w) {id off sz c k : Nat} {ex : Ext} (he : ρ id = some ex) (hc : off + c * ex.sz = ex.cap) (hsz : sz ≠ 0) (hk : capLow h id off sz = some k) : k ≤ c := by
  unfold capLow at hk
  cases hg : h.get id with
  | arr cs el sz' p =>
    rw [hg] at hk
    simp only at hk
    cases hb : Nat.beq sz' sz with
    | false => rw [hb] at hk; simp at hk
    | true =>
      rw [hb] at hk
      have hs := nbeq.1 hb
      subst hs
      simp only [cond_true, Option.some.injEq] at hk
      obtain ⟨_, _, c2, c3, _⟩ := r.arr he hg
      rw [llen_eq] at hk
      change (cs.length - off) / sz' = k at hk
      rw [c2] at hc
      have h1 : cs.length - off ≤ c * sz' := by omega
      have h2 := Nat.div_le_div_right (c := sz') h1
      rw [Nat.mul_div_cancel _ (Nat.pos_of_ne_zero hsz)] at h2
      omega
  | _ => rw [hg] at hk; simp at hk

theorem append_sound (S : Sane P) {ts : Array TypeId} {t : Nat} (h0 : ts[0]? = some t) {s x : AV} {Sv X : Value} (hS : VRel ρ s Sv) (hX : VRel ρ x X) (ty : TypeId) :
    VOk P ρ h w (Builtin.append_ ts ty #[Sv, X]) (appendA P t ts[1]? s x h) := by
  unfold appendA
  cases hni : noInt P ts[1]? with
  | false => trivial
  | true =>
    obtain ⟨xt, d, hxt, hxu, hd⟩ := noInt_desc S hni
    simp only [cond_true]
    cases hsl : sliceT P t with
    | none => trivial
    | some el =>
      have hu := S.desc (sliceT_desc hsl)
      simp only
      cases hz : Nat.beq (szT P el) 0 with
      | true => trivial
      | false =>
        have hsz0 : szT P el ≠ 0 := fun h0 => by rw [h0] at hz; simp at hz
        obtain ⟨i, hi⟩ := szT_pos hsz0
        have hi' := S.info hi
        have hszi := szT_info hi
        simp only
        rw [hszi] at hsz0 ⊢
        cases hsrc : srcOf h i.size x with
        | none => trivial
        | some p =>
          obtain ⟨n, cells⟩ := p
          obtain ⟨hshape, hlen⟩ := srcOf_shape (P := P) hX hsrc
          simp only
          have src : ∀ r : WRel P ρ h w, ∃ vs : List Value, VRels ρ cells vs ∧ (∀ u ∈ vs, u.oneCell' = true) ∧ vs.length = n * i.size ∧ ∀ d, (Builtin.firstCells i.size n X).run P { w with drawn := d } = .ok vs.toArray { w with drawn := d } := by
            intro r
            obtain ⟨vs, v1, v2, v3, v4⟩ := srcOf_sound r hX hsrc
            refine ⟨vs, v1, v2, v3, fun d => ?_⟩
            have := v4 n (Nat.le_refl n) d
            rwa [List.take_of_length_le (by omega)] at this
          cases s with
          | nils =>
            simp only [VRel] at hS; subst hS
            simp only
            cases hn : Nat.beq n 0 with
            | true =>
              have hn0 := nbeq.1 hn
              subst hn0
              refine VOk.val (u := .slice none 0 0) (by simp only [VRel]) fun w' => ?_
              exact run_append_place h0 hxt hu hxu hd hi' (hlen w') (run_firstCells_zero i.size hshape w') (Nat.le_refl _) (fun a ha => by simp at ha) (fun _ => rfl)
            | false =>
              have hn0 : 0 < n := by
                rcases Nat.eq_zero_or_pos n with hh | hh
                · subst hh; simp at hn
                · exact hh
              simp only
              cases hr : roomOk P el n with
              | false => trivial
              | true =>
                intro r
                obtain ⟨vs, v1, v2, v3, v4⟩ := src r
                obtain ⟨i2, z, a1, a2, a3, a4, a5⟩ := roomOk_info hr
                rw [hi] at a1; injection a1 with a1; subst a1
                have hrun := run_append_grown (P := P) (w := w) (ty := ty) h0 hxt hu hxu hd hi' a2 (base := none) (sLen := 0) (sCap := 0) (olds := #[]) (new := vs.toArray) (hlen w) (by simp [Builtin.firstCells]) (v4 _) (by omega) (by omega) (by simpa using a4)
                obtain ⟨ρ', b1, b2⟩ := grown_sound r v1 v2 (el := el) (sz := i.size) (need := n) (cap := grownCap w n 0 el) (peer := 0) (d := w.drawn + 1) (rest := Builtin.zeroCells z.cells (grownCap w n 0 el - n)) v3 (by rw [zeroCells_size, a3]) (grownCap_le _ _ _ _) rfl (.inl rfl)
                refine ⟨ρ', _, _, ?_, b1, b2, H.ds_add _ _⟩
                rw [Nat.zero_add] at hrun
                rw [hrun, Array.empty_append]
                rfl
          | slice id off len cap =>
            obtain ⟨ex, o, c, he, rfl, hlc, ho, hcap⟩ := slice_inv hS
            simp only
            generalize hcond : Nat.ble (Nat.add len n) _ = b
            cases b with
            | true =>
              simp only
              cases hw : writeA h id (Nat.add off (Nat.mul len i.size)) cells with
              | none => trivial
              | some h' =>
                intro r
                obtain ⟨vs, v1, v2, v3, v4⟩ := src r
                have hle : len + n ≤ c := by
                  have hc1 := nble.1 hcond
                  rcases hcap with rfl | ⟨rfl, hc⟩
                  · exact hc1
                  · simp only at hc1
                    cases hn : Nat.beq n 0 with
                    | true => have := nbeq.1 hn; omega
                    | false =>
                      rw [hn] at hc1
                      simp only at hc1
                      cases hk : capLow h id off i.size with
                      | none =>
                        rw [hk] at hc1
                        have : len + n ≤ 0 := hc1
                        omega
                      | some k =>
                        rw [hk] at hc1
                        have h1 : len + n ≤ k := hc1
                        have := capLow_le r he hc hsz0 hk
                        omega
                obtain ⟨w', b1, b2, b3⟩ := write_sound r hw v1 v2 (a := (⟨ex.block, o, none⟩ : Addr).add (len * i.size)) (fun hne => by
                  refine ⟨ex, he, ?_⟩
                  have hn : n ≠ 0 := by
                    intro h0
                    subst h0
                    have : vs = [] := List.eq_nil_of_length_eq_zero (by simpa using v3)
                    subst this
                    have := v1.length
                    simp at this
                    exact hne this
                  have : o = ex.off + off := by rcases ho with h0 | h0; omega; exact h0
                  rw [add_at, this]
                  congr 1
                  show _ = ex.off + (off + len * i.size)
                  omega)
                refine ⟨ρ, w', .slice (some ⟨ex.block, o, none⟩) (len + n) c, ?_, b2, slice_mk he hle ho hcap, b3⟩
                exact run_append_place h0 hxt hu hxu hd hi' (hlen w) (v4 w.drawn) hle (fun a ha => by injection ha with ha; subst ha; simpa using b1) (fun hh => by simp at hh)
            | false =>
              simp only
              cases hrd : readCells h id off (Nat.mul len i.size) with
              | none => trivial
              | some old =>
                simp only
                cases hr : roomOk P el (Nat.add len n) with
                | false => trivial
                | true =>
                  obtain ⟨i2, z, a1, a2, a3, a4, a5⟩ := roomOk_info hr
                  rw [hi] at a1; injection a1 with a1; subst a1
                  change (len + n) * i.bytes ≤ _ at a4
                  change len + n < _ at a5
                  have grow : ∀ r : WRel P ρ h w, ∀ vs : List Value, (∀ d, (Builtin.firstCells i.size n X).run P { w with drawn := d } = .ok vs.toArray { w with drawn := d }) → ¬ (len + n ≤ c) →
                      ∃ (olds : List Value) (cap : Nat) (rest : Array Value) (d : Nat), VRels ρ old olds ∧ (∀ u ∈ olds, u.oneCell' = true) ∧ olds.length = len * i.size ∧ rest.size = (cap - (len + n)) * i.size ∧ len + n ≤ cap ∧
                        (Builtin.append_ ts ty #[.slice (some ⟨ex.block, o, none⟩) len c, X]).run P w = .ok (.slice (some ⟨w.heap.size, 0, none⟩) (len + n) cap) { { w with heap := w.heap.push (.cells ((olds ++ vs).toArray ++ rest) el) } with drawn := d } := by
                    intro r vs v4 hnc
                    obtain ⟨olds, o1, o2, o3, o4⟩ := readCells_sound r (slice_mk (len := len) he hlc ho hcap) hrd
                    have o5 := o4 len (Nat.le_refl _) (w.drawn + 1)
                    rw [List.take_of_length_le (by omega)] at o5
                    refine ⟨olds, grownCap w (len + n) c el, Builtin.zeroCells z.cells (grownCap w (len + n) c el - (len + n)), w.drawn + 1, o1, o2, o3, by rw [zeroCells_size, a3], grownCap_le _ _ _ _, ?_⟩
                    rw [run_append_grown (P := P) (w := w) (ty := ty) h0 hxt hu hxu hd hi' a2 (hlen w) o5 (v4 _) (by omega) a5 a4]
                    have he : olds.toArray ++ vs.toArray = (olds ++ vs).toArray := by simp
                    rw [he]
                    rfl
                  simp only [cond_true]
                  unfold appendGrow
                  rcases hcap with rfl | ⟨rfl, hc⟩
                  · intro r
                    obtain ⟨vs, v1, v2, v3, v4⟩ := src r
                    have hnc : ¬ (len + n ≤ c) := by
                      intro hh
                      have := nble.2 hh
                      rw [show Nat.add len n = len + n from rfl] at hcond
                      rw [hcond] at this
                      simp at this
                    obtain ⟨olds, cap, rest, dd, q1, q2, q3, q4, q5, q6⟩ := grow r vs v4 hnc
                    obtain ⟨ρ', b1, b2⟩ := grown_sound r (q1.append v1) (by intro u hu; rcases List.mem_append.1 hu with hu | hu; exact q2 u hu; exact v2 u hu) (el := el) (sz := i.size) (need := len + n) (cap := cap) (peer := 0) (d := dd) (rest := rest)
                      (by rw [List.length_append, q3, v3, Nat.add_mul]) q4 q5 rfl (.inl rfl)
                    rw [lapp_eq]
                    exact ⟨ρ', _, _, q6, b1, b2, H.ds_add _ _⟩
                  · simp only
                    have hn0 : n ≠ 0 := by
                      intro hh
                      subst hh
                      have h1 : Nat.ble len len = false := hcond
                      have h2 := nble.2 (Nat.le_refl len)
                      rw [h1] at h2
                      cases h2
                    cases hg : h.get id with
                    | arr cs el' sz' p =>
                      simp only
                      cases hb1 : Nat.beq sz' i.size with
                      | false => trivial
                      | true =>
                        have hs1 := nbeq.1 hb1
                        subst hs1
                        cases hb2 : Nat.beq el' el with
                        | false => trivial
                        | true =>
                          have hs2 := nbeq.1 hb2
                          subst hs2
                          simp only [cond_true]
                          cases hk : killPeer h p with
                          | none => trivial
                          | some h₁ =>
                            simp only
                            have place : ∀ vs : List Value, (∀ d, (Builtin.firstCells i.size n X).run P { w with drawn := d } = .ok vs.toArray { w with drawn := d }) → len + n ≤ c → ∀ w', (storeCells ⟨ex.block, ex.off + off + len * i.size, none⟩ vs).run P w = .ok () w' →
                                (Builtin.append_ ts ty #[.slice (some ⟨ex.block, o, none⟩) len c, X]).run P w = .ok (.slice (some ⟨ex.block, ex.off + off, none⟩) (len + n) c) w' := by
                              intro vs v4 hle w' hst
                              have : o = ex.off + off := by rcases ho with h0 | h0; omega; exact h0
                              subst this
                              exact run_append_place h0 hxt hu hxu hd hi' (hlen w) (v4 w.drawn) hle (fun a ha => by injection ha with ha; subst ha; rw [add_at]; simpa using hst) (fun hh => by simp at hh)
                            cases hb3 : Nat.blt (Nat.add off (Nat.mul len i.size)) (llen cs) with
                            | true =>
                              simp only
                              cases hp : h₁.put id .none with
                              | none => trivial
                              | some h₂ =>
                                intro r
                                obtain ⟨vs, v1, v2, v3, v4⟩ := src r
                                rw [lapp_eq]
                                exact grow_open r he hg hk hp (.inl rfl) hc hrd v1 v2 v3 (.inl rfl) (place vs v4) (grow r vs v4)
                            | false =>
                              simp only
                              cases hp : h₁.put id (.arr cs el' i.size h.next) with
                              | none => trivial
                              | some h₂ =>
                                intro r
                                obtain ⟨vs, v1, v2, v3, v4⟩ := src r
                                rw [lapp_eq]
                                refine grow_open r he hg hk hp (.inr ⟨rfl, rfl, ?_⟩) hc hrd v1 v2 v3 (.inr ⟨ex, he⟩) (place vs v4) (grow r vs v4)
                                have : ¬ (off + len * i.size < llen cs) := fun hh => by
                                  have := nblt.2 hh
                                  rw [show Nat.add off (Nat.mul len i.size) = off + len * i.size from rfl] at hb3
                                  rw [hb3] at this; simp at this
                                rw [llen_eq] at this; omega
                    | _ => trivial
          | _ => trivial

theorem goInt_rel (n : Nat) : VRel ρ (.int .i64 (.ofNat n)) (goInt n) := by simp only [VRel]; rfl
theorem copy_sound (S : Sane P) {ts : Array TypeId} {t : Nat} (h0 : ts[0]? = some t) {s x : AV} {Sv X : Value} (hS : VRel ρ s Sv) (hX : VRel ρ x X) (ty : TypeId) :
    VOk P ρ h w (Builtin.copy_ ts ty #[Sv, X]) (copyA P t s x h) := by
  unfold copyA
  cases hsl : sliceT P t with
  | none => trivial
  | some el =>
    have hu := S.desc (sliceT_desc hsl)
    simp only
    cases hht : hasT P el with
    | false => trivial
    | true =>
      obtain ⟨dd, hdd⟩ := hasT_iff.1 hht
      obtain ⟨i, hi⟩ := descT_info hdd
      have hi' := S.info hi
      simp only [cond_true]
      rw [szT_info hi]
      cases hsrc : srcOf h i.size x with
      | none => trivial
      | some p =>
        obtain ⟨n, cells⟩ := p
        obtain ⟨hshape, hlen⟩ := srcOf_shape (P := P) hX hsrc
        simp only
        cases s with
        | nils =>
          simp only [VRel] at hS; subst hS
          refine VOk.val (u := goInt 0) (by simp only [VRel]; rfl) fun w' => ?_
          have hm : Nat.min n 0 = 0 := Nat.min_eq_right (Nat.zero_le _)
          simp [Builtin.copy_, h0, run_underlying hu, hlen w', sizeOf, typeInfo, hi', hm, run_firstCells_zero i.size hshape w']
        | slice id off len cap =>
          obtain ⟨ex, o, c, he, rfl, hlc, ho, hcap⟩ := slice_inv hS
          simp only
          rw [ltake_eq]
          cases hw : writeA h id off (cells.take (Nat.mul (Nat.min n len) i.size)) with
          | none => trivial
          | some h' =>
            intro r
            obtain ⟨vs, v1, v2, v3, v4⟩ := srcOf_sound r hX hsrc
            have v5 := v4 (Nat.min n len) (Nat.min_le_left _ _) w.drawn
            obtain ⟨w', b1, b2, b3⟩ := write_sound r hw (v1.take (Nat.mul (Nat.min n len) i.size)) (fun u hu => v2 u (List.mem_of_mem_take hu)) (a := ⟨ex.block, o, none⟩) (fun hne => by
              refine ⟨ex, he, ?_⟩
              have hl : len ≠ 0 := by
                intro hl
                subst hl
                apply hne
                have : Nat.mul (Nat.min n 0) i.size = 0 := by
                  have hm : Nat.min n 0 = 0 := Nat.min_eq_right (Nat.zero_le _)
                  rw [hm]; exact Nat.zero_mul _
                rw [this]; rfl
              have : o = ex.off + off := by rcases ho with h0 | h0; omega; exact h0
              rw [this])
            refine ⟨ρ, w', goInt (Nat.min n len), ?_, b2, goInt_rel _, b3⟩
            change (Builtin.firstCells i.size (Nat.min n len) X).run P w = _ at v5
            have b1' : (storeCells ⟨ex.block, o, none⟩ (vs.take (Nat.min n len * i.size))).run P w = .ok () w' := b1
            simp only [Builtin.copy_, h0, List.getElem?_toArray, List.getElem?_cons_zero, List.getElem?_cons_succ, Sem.run_bind, run_underlying hu, Result.andThen_ok, hlen w, sizeOf, typeInfo, v5]
            simp [hi', v5, b1']
        | _ => trivial
theorem clear_sound (S : Sane P) {ts : Array TypeId} {t : Nat} (h0 : ts[0]? = some t) {x : AV} {X : Value} (hX : VRel ρ x X) (ty : TypeId) :
    VOk P ρ h w (Builtin.clear_ ts ty #[X]) (clearA P t x h) := by
  unfold clearA
  cases hsl : sliceT P t with
  | none => trivial
  | some el =>
    have hu := S.desc (sliceT_desc hsl)
    simp only
    cases x with
    | nils =>
      simp only [VRel] at hX; subst hX
      refine VOk.val (u := .tuple #[]) (by simp only [VRel]; exact ⟨_, rfl, VRels.nil⟩) fun w' => ?_
      simp [Builtin.clear_, h0, run_underlying hu]
    | slice id off n cap =>
      obtain ⟨ex, o, c, he, rfl, hlc, ho, hcap⟩ := slice_inv hX
      simp only
      cases hz : zeroC P el with
      | none => trivial
      | some z =>
        obtain ⟨i, v, a1, a2, a3, a4, a5⟩ := zeroC_info hz
        have hi' := S.info a1
        simp only
        cases hw : writeA h id off (lrep z n) with
        | none => trivial
        | some h' =>
          intro r
          have hzc : (Builtin.zeroCells v.cells n).toList = lrep v.cells.toList n := by
            unfold Builtin.zeroCells
            rcases Nat.eq_zero_or_pos v.cells.size with hs | hs
            · have : v.cells = #[] := Array.eq_empty_of_size_eq_zero hs
              rw [this, lrep_eq]
              simp
            · exact range_lrep v.cells n (.inl hs)
          obtain ⟨w', b1, b2, b3⟩ := write_sound r hw (lrep_rel (a4 ρ) n) (lrep_all a5 n) (a := ⟨ex.block, o, none⟩) (fun hne => by
            refine ⟨ex, he, ?_⟩
            have hl : n ≠ 0 := by
              intro hl
              subst hl
              exact hne rfl
            have : o = ex.off + off := by rcases ho with h0 | h0; omega; exact h0
            rw [this])
          refine ⟨ρ, w', .tuple #[], ?_, b2, by simp only [VRel]; exact ⟨_, rfl, VRels.nil⟩, b3⟩
          cases n with
          | zero =>
            have hb : (storeCells ⟨ex.block, o, none⟩ (lrep v.cells.toList 0)).run P w = .ok () w := rfl
            rw [hb] at b1
            injection b1 with _ b1
            subst b1
            simp [Builtin.clear_, h0, run_underlying hu]
          | succ n => simp [Builtin.clear_, h0, run_underlying hu, zeroValue, typeInfo, hi', a2, hzc, b1]
    | _ => trivial
theorem len_sound (S : Sane P) {ts : Array TypeId} {x : AV} {X : Value} (hX : VRel ρ x X) (ty : TypeId) :
    VOk P ρ h w (Builtin.len_ ts ty #[X]) (lenA P ts[0]? x h) := by
  unfold lenA
  cases h0 : ts[0]? with
  | none => trivial
  | some t =>
    simp only
    cases hd : descT P t with
    | none => trivial
    | some d =>
      have hu := S.desc hd
      cases d with
      | string =>
        cases x with
        | str s =>
          simp only [VRel] at hX
          obtain ⟨b, rfl, hb⟩ := hX
          refine VOk.val (u := goInt b.size) ?_ fun w' => by simp [Builtin.len_, h0, run_underlying hu]
          rw [llen_eq, ← hb]
          simp only [VRel, List.length_map, Array.length_toList]
          rfl
        | _ => trivial
      | array n el => exact VOk.val (goInt_rel n) fun w' => by simp [Builtin.len_, h0, run_underlying hu]
      | slice el =>
        cases x with
        | nils =>
          simp only [VRel] at hX; subst hX
          exact VOk.val (u := goInt 0) (by simp only [VRel]; rfl) fun w' => by simp [Builtin.len_, h0, run_underlying hu]
        | slice id off n cap =>
          obtain ⟨ex, o, c, he, rfl, _⟩ := slice_inv hX
          exact VOk.val (goInt_rel n) fun w' => by simp [Builtin.len_, h0, run_underlying hu]
        | _ => trivial
      | map k v =>
        cases x with
        | nilm =>
          simp only [VRel] at hX; subst hX
          exact VOk.val (u := goInt 0) (by simp only [VRel]; rfl) fun w' => by simp [Builtin.len_, h0, run_underlying hu]
        | map id =>
          simp only [VRel] at hX
          obtain ⟨ex, he, rfl⟩ := hX
          simp only
          cases hg : h.get id with
          | map es clock =>
            refine VOk.read fun r => ?_
            obtain ⟨_, es', b1, b2⟩ := r.map he hg
            refine ⟨goInt es'.size, ?_, by simp [Builtin.len_, h0, run_underlying hu, run_getMap b1]⟩
            rw [llen_eq, b2.length]
            simp only [VRel, Array.length_toList]
            rfl
          | _ => trivial
        | _ => trivial
      | _ => trivial
end Go.Proofs.YtfkpcifchgnmnaaGreatDoor.Ev
end

noncomputable section
namespace Go.Proofs.YtfkpcifchgnmnaaGreatDoor.Ev
variable {P : Program} {ρ : Emb} {h : H} {w : World} {e : Env} {tmps : Array Value}

/-- what an operation comes to, seen by the machine -/
def NOk (P : Program) (ρ : Emb) (h : H) (w : World) (s : Sem Next) : R → Prop
  | .fail => True
  | .val v => ∃ u, VRel ρ v u ∧ ∀ w', s.run P w' = .ok (.value u) w'
  | .read v => WRel P ρ h w → ∃ u, VRel ρ v u ∧ s.run P w = .ok (.value u) w
  | .new x k => NewOk x k ∧ ∃ obj cap sz, (∀ w', s.run P w' = .ok (.value (newC k w'.heap.size)) { w' with heap := w'.heap.push obj }) ∧ ∀ ρ' b, Sub ρ ρ' → ORel P ρ' ⟨b, 0, cap, sz⟩ (some obj) x
  | .eff v h' => WRel P ρ h w → EOk P ρ h w (fun u w' => s.run P w = .ok (.value u) w' ∨ (u = Go.undef ∧ s.run P w = .ok .skip w')) v h'
  | .choice v h' r => WRel P ρ h w → EOk P ρ h w (fun u w' => s.run P w = .ok (.value u) w' ∨ (u = Go.undef ∧ s.run P w = .ok .skip w')) v h' ∨ NOk P ρ h w s r
  | .call f as => ∃ us : Array Value, VRels ρ as us.toList ∧ ∀ w', s.run P w' = (callFunc f us).run P w'
  | .callv f as => ∃ (fu : Value) (us : Array Value), VRel ρ f fu ∧ VRels ρ as us.toList ∧ ∀ w', s.run P w' = (do let d ← Deferred.ofValue fu us; invoke d.target d.args : Sem Next).run P w'

theorem NOk.ofV {s : Sem Value} {s' : Sem Next} (hs : ∀ w' u w'', s.run P w' = .ok u w'' → s'.run P w' = .ok (.value u) w'') {r : R} (hr : VOk P ρ h w s r) : NOk P ρ h w s' r := by
  induction r with
  | fail => trivial
  | val v => obtain ⟨u, a, b⟩ := hr; exact ⟨u, a, fun w' => hs _ _ _ (b w')⟩
  | read v => intro W; obtain ⟨u, a, b⟩ := hr W; exact ⟨u, a, hs _ _ _ b⟩
  | new x k => obtain ⟨ok, o, c, z, a, b⟩ := hr; exact ⟨ok, o, c, z, fun w' => hs _ _ _ (a w'), b⟩
  | eff v h' => intro W; obtain ⟨ρ', w', u, a, b⟩ := hr W; exact ⟨ρ', w', u, .inl (hs _ _ _ a), b⟩
  | choice v h' r ih =>
    intro W
    rcases hr W with ⟨ρ', w', u, a, b⟩ | hr
    · exact .inl ⟨ρ', w', u, .inl (hs _ _ _ a), b⟩
    · exact .inr (ih hr)
  | call f a => exact hr.elim
  | callv f a => exact hr.elim
theorem NOk.ofU {s : Sem Unit} {s' : Sem Next} (hs : ∀ w' w'', s.run P w' = .ok () w'' → s'.run P w' = .ok .skip w'') {r : R} (hr : UOk P ρ h w s r) : NOk P ρ h w s' r := by
  cases r with
  | fail => trivial
  | eff v h' => intro W; obtain ⟨ρ', w', u, ⟨a, a'⟩, b⟩ := hr W; exact ⟨ρ', w', u, .inr ⟨a, hs _ _ a'⟩, b⟩
  | _ => exact hr.elim

/-! built in -/
theorem VRels.one {ρ : Emb} {x : AV} {as : Array Value} (h : VRels ρ [x] as.toList) : ∃ X, as = #[X] ∧ VRel ρ x X := by
  obtain ⟨l⟩ := as
  simp only [VRels] at h
  obtain ⟨v, ws, e, p, rfl⟩ := h
  try simp only at e
  subst e
  exact ⟨v, rfl, p⟩
theorem VRels.two {ρ : Emb} {x y : AV} {as : Array Value} (h : VRels ρ [x, y] as.toList) : ∃ X Y, as = #[X, Y] ∧ VRel ρ x X ∧ VRel ρ y Y := by
  obtain ⟨l⟩ := as
  simp only [VRels] at h
  obtain ⟨v, ws, e, p, v', ws', rfl, p', rfl⟩ := h
  try simp only at e
  subst e
  exact ⟨v, v', rfl, p, p'⟩
theorem builtin_sound (S : Sane P) {as : List AV} {args : Array Value} (hA : VRels ρ as args.toList) (b : Builtin) (ts : Array TypeId) (ty : TypeId) (cs : Array Bool) :
    NOk P ρ h w (Go.builtin b ts ty cs args) (builtinA P b ts as h) := by
  cases b with
  | len =>
    unfold builtinA
    simp only
    split
    · rename_i x
      obtain ⟨X, rfl, hX⟩ := hA.one
      exact NOk.ofV (s := Builtin.len_ ts ty #[X]) (fun w' u w'' hr => by simp [Go.builtin, hr]) (len_sound S hX ty)
    · trivial
  | cap =>
    unfold builtinA
    simp only
    cases h0 : ts[0]? with
    | none => trivial
    | some t =>
      simp only
      split
      · rename_i el hsl
        obtain ⟨X, rfl, hX⟩ := hA.one
        simp only [VRel] at hX; subst hX
        have hu := S.desc (sliceT_desc hsl)
        exact ⟨goInt 0, by simp only [VRel]; rfl, fun w' => by simp [Go.builtin, Builtin.cap_, h0, run_underlying hu]⟩
      · rename_i el id off len c hsl
        obtain ⟨X, rfl, hX⟩ := hA.one
        obtain ⟨ex, o, c', he, rfl, hlc, ho, hc⟩ := slice_inv hX
        have hu := S.desc (sliceT_desc hsl)
        rcases hc with hc | ⟨hc, _⟩
        · injection hc with hc; subst hc
          exact ⟨goInt c, goInt_rel c, fun w' => by simp [Go.builtin, Builtin.cap_, h0, run_underlying hu]⟩
        · simp at hc
      · trivial
  | append =>
    unfold builtinA
    simp only
    split
    · rename_i s x t h0
      obtain ⟨X, Y, rfl, hX, hY⟩ := hA.two
      exact NOk.ofV (s := Builtin.append_ ts ty #[X, Y]) (fun w' u w'' hr => by simp [Go.builtin, hr]) (append_sound S h0 hX hY ty)
    · trivial
  | copy =>
    unfold builtinA
    simp only
    split
    · rename_i s x t h0
      obtain ⟨X, Y, rfl, hX, hY⟩ := hA.two
      exact NOk.ofV (s := Builtin.copy_ ts ty #[X, Y]) (fun w' u w'' hr => by simp [Go.builtin, hr]) (copy_sound S h0 hX hY ty)
    · trivial
  | clear =>
    unfold builtinA
    simp only
    split
    · rename_i x t h0
      obtain ⟨X, rfl, hX⟩ := hA.one
      exact NOk.ofV (s := Builtin.clear_ ts ty #[X]) (fun w' u w'' hr => by simp [Go.builtin, hr]) (clear_sound S h0 hX ty)
    · trivial
  | delete =>
    unfold builtinA
    simp only
    split
    · rename_i s x t h0
      obtain ⟨X, Y, rfl, hX, hY⟩ := hA.two
      exact NOk.ofV (s := Builtin.delete_ ts ty #[X, Y]) (fun w' u w'' hr => by simp [Go.builtin, hr]) (delete_sound S hX hY ts h0)
    · trivial
  | min =>
    unfold builtinA
    simp only
    split
    · rename_i k a k' b
      obtain ⟨X, Y, rfl, hX, hY⟩ := hA.two
      simp only [VRel] at hX hY
      subst hX; subst hY
      cases hk : kbeq k k' with
      | false => trivial
      | true =>
        refine ⟨.int k (if b < a then b else a), ?_, fun w' => by simp [Go.builtin, Builtin.min_, Builtin.min2]⟩
        simp only [VRel]
        cases hb : iblt b a with
        | true => rw [if_pos ((iblt_iff b a).1 hb)]; rfl
        | false => rw [if_neg (fun hh => by rw [(iblt_iff b a).2 hh] at hb; simp at hb)]; rfl
    · trivial
  | max =>
    unfold builtinA
    simp only
    split
    · rename_i k a k' b
      obtain ⟨X, Y, rfl, hX, hY⟩ := hA.two
      simp only [VRel] at hX hY
      subst hX; subst hY
      cases hk : kbeq k k' with
      | false => trivial
      | true =>
        refine ⟨.int k (if b > a then b else a), ?_, fun w' => by simp [Go.builtin, Builtin.max_, Builtin.max2]⟩
        simp only [VRel]
        cases hb : iblt a b with
        | true => rw [if_pos ((iblt_iff a b).1 hb)]; rfl
        | false => rw [if_neg (fun hh => by rw [(iblt_iff a b).2 hh] at hb; simp at hb)]; rfl
    · trivial
  | _ => trivial

/-! calls -/
theorem run_method (S : Sane P) {t f : Nat} {name : String} {el : TypeId} (hm : methodOf P t name = some f) (hd : descT P t = some (.pointer el)) (n : Nat) (v : Value) (w : World) :
    (method (n + 1) t v name).run P w = .ok (f, v) w := by
  unfold methodOf at hm
  split at hm
  · rename_i i hi
    have hi' := S.info hi
    split at hm
    · rename_i m hf
      split at hm
      · rename_i f' hfn
        cases hp : m.path.isEmpty with
        | false => rw [hp] at hm; simp at hm
        | true =>
          rw [hp] at hm
          simp only [cond_true, Option.some.injEq] at hm
          subst hm
          have hpl : m.path.toList = [] := by simpa using hp
          simp [method, typeInfo, hi', hf, hpl, follow, hfn, receiverAt, run_underlying (S.desc hd), Place.get]
      · simp at hm
    · simp at hm
  · simp at hm
theorem call_sound (S : Sane P) (hE : ERel ρ e tmps) (c : Call) (o : Oper) (ho : o.op = .call c) : NOk P ρ h w (execOp (ev tmps) o) (xCall P c e h) := by
  have hA := evalL_rel hE c.args
  unfold xCall
  cases hc : c.callee with
  | builtin b =>
    have hb := builtin_sound (h := h) (w := w) S hA b c.argTypes o.type (c.args.map fun | .const _ => true | _ => false)
    have : execOp (ev tmps) o = Go.builtin b c.argTypes o.type (c.args.map fun | .const _ => true | _ => false) (c.args.map (ev tmps)) := by
      unfold execOp
      rw [ho]
      simp only [resolve, hc]
      rfl
    rw [this]
    exact hb
  | invoke r name =>
    have hR := eval_rel hE r
    simp only
    split
    · rename_i t v hr
      rw [hr] at hR
      simp only [VRel] at hR
      obtain ⟨u, hu, hv⟩ := hR
      split
      · rename_i f el hm hd
        refine ⟨#[u] ++ c.args.map (ev tmps), by simpa using VRels.cons hv hA, fun w' => ?_⟩
        have hmd : 0 < Made.depth := by decide
        obtain ⟨n, hn⟩ : ∃ n, P.types.size + Made.depth = n + 1 := ⟨P.types.size + Made.depth - 1, by omega⟩
        have hex : (#[Value.iface t u] ++ c.args.map (ev tmps)).extract 1 (#[Value.iface t u] ++ c.args.map (ev tmps)).size = c.args.map (ev tmps) := by
          apply Array.ext'
          simp
          exact List.take_of_length_le (by simp)
        have he : execOp (ev tmps) o = invoke (.fn (.method name) #[]) (#[Value.iface t u] ++ c.args.map (ev tmps)) := by
          unfold execOp
          rw [ho]
          simp only [resolve, hc, hu]
          rfl
        rw [he]
        show (invoke (.fn (.method name) #[]) (#[Value.iface t u] ++ c.args.map (ev tmps))).run P w' = _
        unfold invoke
        have h0 : (#[Value.iface t u] ++ c.args.map (ev tmps))[0]? = some (.iface t u) := by rw [Array.getElem?_append_left (by simp)]; rfl
        rw [h0]
        simp only [hex, callMethod]
        simp [hn, run_method S hm hd]
      · trivial
    · trivial
  | value f =>
    refine ⟨ev tmps f, c.args.map (ev tmps), eval_rel hE f, hA, fun w' => ?_⟩
    unfold execOp
    rw [ho]
    simp only [resolve, hc]

theorem exec_sound (S : Sane P) (hE : ERel ρ e tmps) (o : Oper) : NOk P ρ h w (execOp (ev tmps) o) (execA o.op P e h) := by
  obtain ⟨dst, op, type, pos, after, guard⟩ := o
  cases op with
  | move x => exact ⟨_, eval_rel hE x, fun w' => rfl⟩
  | assign x => exact ⟨_, eval_rel hE x, fun w' => rfl⟩
  | pick c a b =>
    refine NOk.ofV (s := do pure (if ← asBool (ev tmps c) then ev tmps a else ev tmps b)) (fun w' u w'' hr => ?_) (pick_sound hE c a b)
    simp only [Sem.run_bind] at hr
    simp only [execOp, Sem.run_bind]
    cases hb : (asBool (ev tmps c)).run P w' with
    | ok x w1 => rw [hb] at hr; simp only [Result.andThen_ok, Sem.run_pure, Result.ok.injEq] at hr ⊢; simp [hr]
    | halt x w1 => rw [hb] at hr; simp [Result.andThen] at hr
  | alloc t => exact NOk.ofV (fun w' u w'' hr => by simp [execOp, hr]) (alloc_sound (e := e) S t)
  | box t x => exact NOk.ofV (fun w' u w'' hr => by simp [execOp, hr]) (box_sound hE t x)
  | build t ps => exact NOk.ofV (fun w' u w'' hr => by simp only [execOp, Sem.run_bind]; erw [hr]; simp) (build_sound S hE t ps)
  | buildSlice t n ps => exact NOk.ofV (fun w' u w'' hr => by simp only [execOp, Sem.run_bind]; erw [hr]; simp) (buildSlice_sound S hE t n ps)
  | insert t m k x => exact NOk.ofU (fun w' w'' hr => by simp [execOp, hr]) (mapUpdate_sound S hE t m k x)
  | load t a => exact NOk.ofV (fun w' u w'' hr => by simp [execOp, hr]) (load_sound S hE t a)
  | store t a x => exact NOk.ofU (fun w' w'' hr => by simp [execOp, hr]) (store_sound S hE t a x)
  | nilCheck x =>
    show NOk P ρ h w _ (xNilCheck x e h)
    rcases xNilCheck_cases x e h with hn | ⟨v, hn⟩
    · rw [hn]; trivial
    · obtain ⟨hv, hne⟩ := nilCheck_sound (h := h) hE x v hn
      rw [hn]
      refine ⟨ev tmps x, hv, fun w' => ?_⟩
      simp only [execOp]
      generalize ev tmps x = X at hne
      split
      · exact absurd rfl (hne #[]).1
      · exact absurd rfl (hne #[]).2.1
      · exact absurd rfl (hne #[]).2.2.1
      · rename_i name first captured; exact absurd rfl ((hne first).2.2.2 name captured)
      · rfl
  | binOp op t x y t' => exact NOk.ofV (fun w' u w'' hr => by simp only [execOp]; rw [Sem.run_bind, hr]; simp) (bin_sound S hE op t x y t')
  | unOp op t x => exact NOk.ofV (fun w' u w'' hr => by simp [execOp, hr]) (un_sound hE op t x)
  | convert s d x => exact NOk.ofV (fun w' u w'' hr => by simp [execOp, hr]) (conv_sound S hE s d x)
  | makeInterface t x => exact NOk.ofV (fun w' u w'' hr => by simp [execOp, hr]) (mkIface_sound S hE t x)
  | makeFunc fn a b => exact NOk.ofV (fun w' u w'' hr => by simp [execOp, hr]) (mkFunc_sound hE fn a b)
  | makeMap t r => exact NOk.ofV (fun w' u w'' hr => by simp [execOp, hr]) (mkMap_sound S hE t r)
  | makeSlice t l c => exact NOk.ofV (fun w' u w'' hr => by simp [execOp, hr]) (mkSlice_sound S hE t l c)
  | slice t x lo hi mx => exact NOk.ofV (fun w' u w'' hr => by simp [execOp, hr]) (slice_sound S hE t x lo hi mx)
  | fieldAddr t x i => exact NOk.ofV (fun w' u w'' hr => by simp [execOp, hr]) (fieldAddr_sound S hE t x i)
  | field t x i => exact NOk.ofV (fun w' u w'' hr => by simp [execOp, hr]) (field_sound S hE t x i)
  | indexAddr t x i => exact NOk.ofV (fun w' u w'' hr => by simp [execOp, hr]) (indexAddr_sound S hE t x i)
  | index t x i => exact NOk.ofV (fun w' u w'' hr => by simp [execOp, hr]) (index_sound S hE t x i)
  | lookup t x k ok => exact NOk.ofV (fun w' u w'' hr => by simp [execOp, hr]) (lookup_sound S hE t x k ok)
  | mapUpdate t m k x => exact NOk.ofU (fun w' w'' hr => by simp [execOp, hr]) (mapUpdate_sound S hE t m k x)
  | mapEntry t m k => exact NOk.ofV (fun w' u w'' hr => by simp [execOp, hr]) (mapEntry_sound S hE t m k)
  | entryStore t m s x => exact NOk.ofU (fun w' w'' hr => by simp [execOp, hr]) (entryStore_sound hE t m s x)
  | range t x => exact NOk.ofV (fun w' u w'' hr => by simp [execOp, hr]) (range_sound S hE t x)
  | next it s => exact NOk.ofV (fun w' u w'' hr => by simp [execOp, hr]) (next_sound hE it s type)
  | entry it => exact NOk.ofV (fun w' u w'' hr => by simp [execOp, hr]) (entry_sound hE it)
  | typeAssert x xt t ok => exact NOk.ofV (fun w' u w'' hr => by simp [execOp, hr]) (typeAssert_sound S hE x xt t ok)
  | extract x i => exact NOk.ofV (fun w' u w'' hr => by simp [execOp, hr]) (extract_sound hE x i)
  | call c => exact call_sound S hE c _ rfl
  | _ => trivial
end Go.Proofs.YtfkpcifchgnmnaaGreatDoor.Ev
end
