/-
  What is proved here: each piece of code of the evaluator is the machine's; regions whose order is open. Conditions: none.
-/
import Derived.Test.YtfkpcifchgnmnaaGreatDoorEvC
import Derived.AtR
import Derived.RangeFuncLeaves
import Derived.Orders
set_option linter.unusedVariables false
set_option linter.unusedSimpArgs false
noncomputable section
namespace Go.Proofs.YtfkpcifchgnmnaaGreatDoor.Ev

/-! what an outcome says -/
def CMeets (Q : Ex → Env → H → Prop) : Out → Prop
  | .fail => True
  | .code x e h => Q x e h
  | .val _ _ => True
  | .fork a b => CMeets Q a ∨ CMeets Q b
def VMeets (Q : AV → H → Prop) : Out → Prop
  | .fail => True
  | .code _ _ _ => True
  | .val v h => Q v h
  | .fork a b => VMeets Q a ∨ VMeets Q b
theorem outCode_C {Q Q' : Ex → Env → H → Prop} {f : Ex → Env → H → Out} : ∀ {r : Out}, CMeets Q r → (∀ x e h, Q x e h → CMeets Q' (f x e h)) → CMeets Q' (outCode f r)
  | .fail, _, _ => trivial
  | .code x e h, hr, hf => hf x e h hr
  | .val _ _, _, _ => trivial
  | .fork _ _, hr, hf => hr.imp (fun h => outCode_C h hf) (fun h => outCode_C h hf)
theorem outCode_V {Q : Ex → Env → H → Prop} {Q' : AV → H → Prop} {f : Ex → Env → H → Out} : ∀ {r : Out}, CMeets Q r → (∀ x e h, Q x e h → VMeets Q' (f x e h)) → VMeets Q' (outCode f r)
  | .fail, _, _ => trivial
  | .code x e h, hr, hf => hf x e h hr
  | .val _ _, _, _ => trivial
  | .fork _ _, hr, hf => hr.imp (fun h => outCode_V h hf) (fun h => outCode_V h hf)
theorem outVal_C {Q : AV → H → Prop} {Q' : Ex → Env → H → Prop} {f : AV → H → Out} : ∀ {r : Out}, VMeets Q r → (∀ v h, Q v h → CMeets Q' (f v h)) → CMeets Q' (outVal f r)
  | .fail, _, _ => trivial
  | .code _ _ _, _, _ => trivial
  | .val v h, hr, hf => hf v h hr
  | .fork _ _, hr, hf => hr.imp (fun h => outVal_C h hf) (fun h => outVal_C h hf)
theorem CMeets.mono {Q Q' : Ex → Env → H → Prop} (hq : ∀ x e h, Q x e h → Q' x e h) : ∀ {r : Out}, CMeets Q r → CMeets Q' r
  | .fail, _ => trivial
  | .code x e h, hr => hq x e h hr
  | .val _ _, _ => trivial
  | .fork _ _, hr => hr.imp (CMeets.mono hq) (CMeets.mono hq)
theorem VMeets.mono {Q Q' : AV → H → Prop} (hq : ∀ v h, Q v h → Q' v h) : ∀ {r : Out}, VMeets Q r → VMeets Q' r
  | .fail, _ => trivial
  | .code _ _ _, _ => trivial
  | .val v h, hr => hq v h hr
  | .fork _ _, hr => hr.imp (VMeets.mono hq) (VMeets.mono hq)

/-! where a frame stands -/
def DMarks (ρ : Emb) : List Nat → List Deferred → Prop
  | [], l => l = []
  | d :: ds, l => ∃ e l', ρ d = some e ∧ l = { target := .collected e.block, args := #[] } :: l' ∧ DMarks ρ ds l'
theorem DMarks.mono {ρ ρ' : Emb} (s : Sub ρ ρ') : ∀ {l : List Nat} {ds : List Deferred}, DMarks ρ l ds → DMarks ρ' l ds
  | [], _, h => h
  | _ :: _, _, ⟨e, l', h1, h2, h3⟩ => ⟨e, l', s _ _ h1, h2, DMarks.mono s h3⟩
def DRel (ρ : Emb) (ro : Option Nat) (m : Marks) (ds : List Deferred) : Prop := match ro, m with
  | none, .fn l => DMarks ρ l ds
  | some r, .round i => (∃ e, ρ i = some e ∧ e.block = r) ∧ ds = []
  | _, _ => False
theorem DRel.mono {ρ ρ' : Emb} (s : Sub ρ ρ') {ro : Option Nat} {m : Marks} {ds : List Deferred} (h : DRel ρ ro m ds) : DRel ρ' ro m ds := by
  unfold DRel at *
  split at h
  · exact DMarks.mono s h
  · obtain ⟨⟨e, h1, h2⟩, h3⟩ := h; exact ⟨⟨e, s _ _ h1, h2⟩, h3⟩
  · exact h.elim
structure Here (P : Program) (ρ : Emb) (h : H) (w : World) (e : Env) (b : Frame) (a : Act) (n : Nat) : Prop where
  rel : WRel P ρ h w
  env : ERel ρ e a.tmps
  size : a.tmps.size = n
  marks : DRel ρ b.roundOf h.ds a.defers
  kind : b.kind = .normal
/-- how a piece of code has been left -/
def Left (P : Program) (m : Machine) (b : Frame) (k : List Item) (cs : List Frame) (x : Ex) (a : Act) (w : World) : Prop := match x with
  | .normal => Steps P m (lone (b.atR a k) cs w)
  | .exit id => ∃ k', exitTo id k' = exitTo id k ∧ Steps P m (lone (b.atR a (.code (.exit id) :: k')) cs w)
  | .goto l => ∃ k', gotoIn l k' = gotoIn l k ∧ Steps P m (lone (b.atR a (.code (.goto l) :: k')) cs w)
  | .ret => ∃ k', Steps P m (lone (b.atR a (.code .ret :: k')) cs w)
theorem Left.of_steps {P : Program} {m m' : Machine} (s : Steps P m m') {b : Frame} {k : List Item} {cs : List Frame} {a : Act} {w : World} : ∀ {x : Ex}, Left P m' b k cs x a w → Left P m b k cs x a w
  | .normal, h => s.trans h
  | .exit _, ⟨k', h1, h2⟩ => ⟨k', h1, s.trans h2⟩
  | .goto _, ⟨k', h1, h2⟩ => ⟨k', h1, s.trans h2⟩
  | .ret, ⟨k', h⟩ => ⟨k', s.trans h⟩
def Leaf (P : Program) (ρ : Emb) (h : H) (w : World) (b : Frame) (k : List Item) (cs : List Frame) (n : Nat) (m : Machine) (x : Ex) (e' : Env) (h' : H) : Prop :=
  ∃ ρ' w' a', Post P ρ h w ρ' h' w' ∧ Here P ρ' h' w' e' b a' n ∧ Left P m b k cs x a' w'
theorem Leaf.of {P : Program} {ρ ρ₁ : Emb} {h h₁ : H} {w w₁ : World} {b : Frame} {k : List Item} {cs : List Frame} {n : Nat} {m m' : Machine} (p : Post P ρ h w ρ₁ h₁ w₁) (s : Steps P m m') {x : Ex} {e' : Env} {h' : H}
    (l : Leaf P ρ₁ h₁ w₁ b k cs n m' x e' h') : Leaf P ρ h w b k cs n m x e' h' := by
  obtain ⟨ρ', w', a', l1, l2, l3⟩ := l
  exact ⟨ρ', w', a', p.trans l1, l2, l3.of_steps s⟩
def RunsOk (P : Program) (items : List Item) (tail : List Item) (c : Code → Prop) (e : Env) (h : H) (o : Out) : Prop := True
def CodeOk (P : Program) (c : Code) (e : Env) (h : H) (o : Out) : Prop :=
  ∀ ρ w b a k cs n, Here P ρ h w e b a n → Okc P n c → CMeets (Leaf P ρ h w b k cs n (lone (b.atR a (.code c :: k)) cs w)) o
def LoopOk (P : Program) (c : Code) (e : Env) (h : H) (o : Out) : Prop :=
  ∀ ρ w b a k cs n, Here P ρ h w e b a n → Okc P n c → CMeets (Leaf P ρ h w b k cs n (lone (b.atR a (.inLoop c :: k)) cs w)) o
def ScopeOk (P : Program) (s c : Code) (e : Env) (h : H) (o : Out) : Prop :=
  ∀ ρ w b a k cs n, Here P ρ h w e b a n → Okc P n s → Okc P n c → CMeets (Leaf P ρ h w b k cs n (lone (b.atR a (.code c :: .inScope s :: k)) cs w)) o

/-- a frame goes on with a value -/
def Goes (P : Program) (s : Sem Next) (c : Frame) (cs : List Frame) (w : World) (v : Value) (w' : World) : Prop :=
  s.run P w = .ok (.value v) w' ∨ (v = Go.undef ∧ s.run P w = .ok .skip w') ∨
  (∃ f args w₁, s.run P w = .ok (.enter f args) w₁ ∧ Steps P (lone (Frame.enter P f args .normal) (c :: cs) w₁) (lone (c.finish v) cs w')) ∨
  (∃ l f tmps assign body w₁, s.run P w = .ok (.round l f tmps assign body) w₁ ∧ Steps P (lone (Frame.round l f tmps assign body .normal) (c :: cs) w₁) (lone (c.finish v) cs w'))
theorem Goes.congr {P : Program} {s s' : Sem Next} {c : Frame} {cs : List Frame} {w : World} (hs : s.run P w = s'.run P w) {v : Value} {w' : World} (g : Goes P s' c cs w v w') : Goes P s c cs w v w' := by
  unfold Goes at *
  rw [hs]
  exact g
def CallOk (P : Program) (f : Nat) (args : List AV) (h : H) (o : Out) : Prop :=
  ∀ ρ w (us : Array Value) c cs, WRel P ρ h w → VRels ρ args us.toList →
    VMeets (fun v h' => ∃ ρ' w' u, Post P ρ h w ρ' h' w' ∧ VRel ρ' v u ∧ h'.ds = h.ds ∧ Goes P (callFunc f us) c cs w u w') o
def CallvOk (P : Program) (f : AV) (args : List AV) (h : H) (o : Out) : Prop :=
  ∀ ρ w (fu : Value) (us : Array Value) c cs, WRel P ρ h w → VRel ρ f fu → VRels ρ args us.toList →
    VMeets (fun v h' => ∃ ρ' w' u, Post P ρ h w ρ' h' w' ∧ VRel ρ' v u ∧ h'.ds = h.ds ∧ Goes P (do let d ← Deferred.ofValue fu us; invoke d.target d.args) c cs w u w') o
structure SelfOk (P : Program) (sf : Self) : Prop where
  loop : ∀ c e h, LoopOk P c e h (sf (.loop c e h))
  scope : ∀ s c e h, ScopeOk P s c e h (sf (.scope s c e h))
  call : ∀ f args h, CallOk P f args h (sf (.call f args h))
  callv : ∀ f args h, CallvOk P f args h (sf (.callv f args h))

/-! one operation -/
section
variable {P : Program} {ρ : Emb} {h : H} {w : World} {e : Env} {b : Frame} {a : Act} {k : List Item} {cs : List Frame} {n : Nat} {ops : Array Oper} {self : Self}
theorem atR_apply_kind (i : Nat) (rest : List Nat) : (match (b.atR a (.inRegion ops (i :: rest) :: k)).todo with | .call _ true _ _ :: _ => CallKind.wrapped | _ => .normal) = .normal := rfl
theorem step_goes {i : Nat} {rest : List Nat} {o : Oper} (ho : ops[i]? = some o) (hw : Region.wanted o (yielded ops a.tmps) = true) (hd : ∀ c, o.op ≠ .defer c) {v : Value} {w' : World}
    (g : Goes P (execOp a.eval o) (b.atR a (.inRegion ops (i :: rest) :: k)) cs w v w') :
    Steps P (lone (b.atR a (.inRegion ops (i :: rest) :: k)) cs w) (lone (b.atR (a.put o.dst v) (.inRegion ops rest :: k)) cs w') := by
  have hg := stepGR_op (P := P) (b := b) (k := k) (cs := cs) (w := w) (rest := rest) ho hw
  rw [Oper.semAt_eq _ _ _ hd] at hg
  have hfin : ∀ v, (b.atR a (.inRegion ops (i :: rest) :: k)).finish v = b.atR (a.put o.dst v) (.inRegion ops rest :: k) := by
    intro v; rw [Frame.finish_atR, ho]; rfl
  rcases g with hr | ⟨rfl, hr⟩ | ⟨f, args, w₁, hr, hs⟩ | ⟨l, f, tmps, assign, body, w₁, hr, hs⟩
  · exact .one (step_lone_go (by rw [hg, ← hfin]; simp [stepG.apply, hr]))
  · exact .one (step_lone_go (by rw [hg, ← hfin]; simp [stepG.apply, hr]))
  · rw [← hfin]
    exact .head (step_lone_go (by rw [hg]; simp [stepG.apply, hr, Frame.atR])) hs
  · rw [← hfin]
    exact .head (step_lone_go (by rw [hg]; simp [stepG.apply, hr, Frame.atR])) hs

theorem eval_eq_ev (a : Act) : a.eval = ev a.tmps := by funext x; cases x <;> rfl
theorem Here.put (H0 : Here P ρ h w e b a n) {ρ' : Emb} {h' : H} {w' : World} (p : Post P ρ h w ρ' h' w') (hds : h'.ds = h.ds) {d : Option Nat} (hd : ∀ t, d = some t → t < n) {v : AV} {u : Value} (hv : VRel ρ' v u) :
    Here P ρ' h' w' (setO e d v) b (a.put d u) n := by
  refine ⟨p.rel, ?_, ?_, ?_, H0.kind⟩
  · cases d with
    | none => exact H0.env.mono p.sub
    | some t => exact (H0.env.mono p.sub).set (by rw [H0.size]; exact hd t rfl) hv
  · cases d with
    | none => exact H0.size
    | some t => simpa [Act.put] using H0.size
  · rw [hds]
    have := H0.marks.mono p.sub
    cases d <;> exact this
theorem newVal_rel {ρ : Emb} {x : AObj} {m : NewK} (ok : NewOk x m) {id : Nat} {b cap sz : Nat} (he : ρ id = some ⟨b, 0, cap, sz⟩) : VRel ρ (newVal m id) (newC m b) := by
  cases m with
  | ptr => simp only [newVal, newC, VRel]; exact ⟨_, he, rfl⟩
  | slice l c => simp only [newVal, newC, VRel]; exact ⟨_, 0, he, rfl, ok.2 l c rfl, .inr rfl⟩
  | map => simp only [newVal, newC, VRel]; exact ⟨_, he, rfl⟩
/-- an operation, and what is behind it -/
theorem opOut_ok (so : SelfOk P self) {s : Sem Next} {c : Frame} {Q : Ex → Env → H → Prop} (W : WRel P ρ h w) {d : Option Nat} {k : Rest} : ∀ {r : R}, NOk P ρ h w s r →
    (∀ ρ' w' v u h', Post P ρ h w ρ' h' w' → VRel ρ' v u → h'.ds = h.ds → Goes P s c cs w u w' → CMeets Q (k self (setO e d v) h')) →
    CMeets Q (opOut r d k self e h)
  | .fail, _, _ => trivial
  | .val v, hr, K => by
    obtain ⟨u, hu, hs⟩ := hr
    exact K ρ w v u h (Post.refl W) hu rfl (.inl (hs w))
  | .read v, hr, K => by
    obtain ⟨u, hu, hs⟩ := hr W
    exact K ρ w v u h (Post.refl W) hu rfl (.inl hs)
  | .new x m, hr, K => by
    obtain ⟨ok, obj, cap, sz, hs, ho⟩ := hr
    refine K _ _ (newVal m h.next) (newC m w.heap.size) (h.add x) (Post.add W x obj cap sz ok.peer fun ρ' hsub _ => ho ρ' _ hsub) (newVal_rel ok (if_pos rfl)) (H.ds_add h x) (.inl (hs w))
  | .eff v h', hr, K => by
    obtain ⟨ρ', w', u, hs, hp, hv, hds⟩ := hr W
    refine K ρ' w' v u h' hp hv hds ?_
    rcases hs with hs | ⟨hu, hs⟩
    · exact .inl hs
    · exact .inr (.inl ⟨hu, hs⟩)
  | .choice v h' r, hr, K => by
    rcases hr W with ⟨ρ', w', u, hs, hp, hv, hds⟩ | hr
    · refine .inl (K ρ' w' v u h' hp hv hds ?_)
      rcases hs with hs | ⟨hu, hs⟩
      · exact .inl hs
      · exact .inr (.inl ⟨hu, hs⟩)
    · exact .inr (opOut_ok so W hr K)
  | .call f as, hr, K => by
    obtain ⟨us, hus, hs⟩ := hr
    refine outVal_C (so.call f as h ρ w us c cs W hus) ?_
    rintro v h' ⟨ρ', w', u, hp, hv, hds, g⟩
    exact K ρ' w' v u h' hp hv hds (g.congr (hs w))
  | .callv f as, hr, K => by
    obtain ⟨fu, us, hfu, hus, hs⟩ := hr
    refine outVal_C (so.callv f as h ρ w fu us c cs W hfu hus) ?_
    rintro v h' ⟨ρ', w', u, hp, hv, hds, g⟩
    exact K ρ' w' v u h' hp hv hds (g.congr (hs w))
end
end Go.Proofs.YtfkpcifchgnmnaaGreatDoor.Ev
end

noncomputable section
namespace Go.Proofs.YtfkpcifchgnmnaaGreatDoor.Ev
section
variable {P : Program} {ρ : Emb} {h : H} {w : World} {e : Env} {b : Frame} {a : Act} {k : List Item} {cs : List Frame} {n : Nat} {ops : Array Oper} {self : Self}

theorem VRel.of_bool {x : AV} {c : Bool} (hx : VRel ρ x (.bool c)) : x = .bool c ∨ x = .poison := by
  cases x with
  | bool b => simp only [VRel] at hx; injection hx with hx; subst hx; exact .inl rfl
  | poison => exact .inr rfl
  | slice id off len cap =>
    cases cap with
    | none => simp only [VRel] at hx; obtain ⟨_, _, _, _, hx, _⟩ := hx; cases hx
    | some k => simp only [VRel] at hx; obtain ⟨_, _, _, hx, _⟩ := hx; cases hx
  | func f a b => cases f <;> (simp only [VRel] at hx; first | (obtain ⟨_, _, hx, _⟩ := hx; cases hx) | (obtain ⟨_, _, hx⟩ := hx; cases hx))
  | int k n => simp only [VRel] at hx; cases hx
  | str s => simp only [VRel] at hx; obtain ⟨_, hx, _⟩ := hx; cases hx
  | nilp => simp only [VRel] at hx; cases hx
  | ptr i o => simp only [VRel] at hx; obtain ⟨_, _, hx⟩ := hx; cases hx
  | nils => simp only [VRel] at hx; cases hx
  | nilm => simp only [VRel] at hx; cases hx
  | map i => simp only [VRel] at hx; obtain ⟨_, _, hx⟩ := hx; cases hx
  | nilf => simp only [VRel] at hx; cases hx
  | iface t v => simp only [VRel] at hx; obtain ⟨_, hx, _⟩ := hx; cases hx
  | nili => simp only [VRel] at hx; cases hx
  | agg l => simp only [VRel] at hx; obtain ⟨_, hx, _⟩ := hx; cases hx
  | tuple l => simp only [VRel] at hx; obtain ⟨_, hx, _⟩ := hx; cases hx
theorem wanted_ok {tmps : Array Value} (hE : ERel ρ e tmps) {o : Oper} {t : Bool} (hw : wantedA ops e o = some t) : Region.wanted o (yielded ops tmps) = t := by
  unfold wantedA at hw
  unfold Region.wanted
  cases hg : o.guard with
  | none => rw [hg] at hw; simpa using hw
  | some p =>
    obtain ⟨j, want⟩ := p
    rw [hg] at hw
    simp only at hw ⊢
    unfold yielded
    cases hd : (ops[j]?).bind (·.dst) with
    | none => rw [hd] at hw; simp at hw ⊢; exact hw
    | some d =>
      rw [hd] at hw
      simp only [Option.bind_some] at hw ⊢
      have hv := hE d
      cases ht : tmps[d]? with
      | none =>
        have hu : tmps.getD d Go.undef = Go.undef := by simp [Array.getD_eq_getD_getElem?, ht]
        rw [hu] at hv
        cases hx : getT e d with
        | bool c => rw [hx] at hv; simp only [VRel, Go.undef] at hv; cases hv
        | poison => rw [hx] at hw; simp at hw
        | _ => rw [hx] at hw; simp at hw ⊢; exact hw
      | some v =>
        have hu : tmps.getD d Go.undef = v := by simp [Array.getD_eq_getD_getElem?, ht]
        rw [hu] at hv
        cases hx : getT e d with
        | bool c =>
          rw [hx] at hv hw
          simp only [VRel] at hv
          subst hv
          simp only [Option.some.injEq] at hw
          subst hw
          cases c <;> cases want <;> rfl
        | poison => rw [hx] at hw; simp at hw
        | _ =>
          rw [hx] at hw hv
          simp only [Option.some.injEq] at hw
          subst hw
          cases v with
          | bool c => rcases VRel.of_bool hv with hh | hh <;> cases hh
          | _ => rfl

theorem opsR_ok (S : Sane P) (so : SelfOk P self) (hops : ∀ o ∈ ops.toList, ∀ d, o.dst = some d → d < n) : ∀ (l : List Oper) (i : Nat), ops.toList.drop i = l → ∀ ρ h w e b a k cs, Here P ρ h w e b a n →
    CMeets (Leaf P ρ h w b k cs n (lone (b.atR a (.inRegion ops ((List.range ops.size).drop i) :: k)) cs w)) (opsR P ops l self e h)
  | [], i, hi, ρ, h, w, e, b, a, k, cs, H0 => by
    have hle : ops.size ≤ i := by
      have := congrArg List.length hi
      simp at this; omega
    have hd : (List.range ops.size).drop i = [] := List.drop_eq_nil_of_le (by simpa using hle)
    rw [hd]
    exact ⟨ρ, w, a, Post.refl H0.rel, H0, Steps.one stepR_region_end⟩
  | o :: l, i, hi, ρ, h, w, e, b, a, k, cs, H0 => by
    have hlt : i < ops.size := by
      have := congrArg List.length hi
      simp at this; omega
    have ho : ops[i]? = some o := by
      have := congrArg (fun l => l[0]?) hi
      simpa using this
    have hrest : ops.toList.drop (i + 1) = l := by
      have := congrArg (List.drop 1) hi
      simpa [Nat.add_comm] using this
    have hdrop : (List.range ops.size).drop i = i :: (List.range ops.size).drop (i + 1) := by
      rw [List.drop_eq_getElem_cons (by simpa using hlt)]
      simp
    have hdst : ∀ d, o.dst = some d → d < n := hops o (List.mem_of_getElem? (by simpa using ho))
    rw [hdrop]
    show CMeets _ (Option.rec (motive := fun _ => Out) .fail (fun b => Bool.rec (motive := fun _ => Out) (opsR P ops l self (setO e o.dst undef) h) (opOut (execA o.op P e h) o.dst (opsR P ops l) self e h) b) (wantedA ops e o))
    cases hw : wantedA ops e o with
    | none => trivial
    | some t =>
      have hwant := wanted_ok H0.env hw
      cases t with
      | false =>
        have hs := stepR_op_skip (P := P) (b := b) (a := a) (k := k) (cs := cs) (w := w) (ops := ops) (i := i) (rest := (List.range ops.size).drop (i + 1)) (by simp [ho, hwant])
        simp only [ho, Option.bind_some] at hs
        refine CMeets.mono (fun x e' h' hl => Leaf.of (Post.refl H0.rel) (.one hs) hl) (opsR_ok S so hops l (i + 1) hrest ρ h w _ b _ k cs (H0.put (Post.refl H0.rel) rfl hdst VRel.undef))
      | true =>
        by_cases hdef : ∃ c, o.op = .defer c
        · obtain ⟨c, hc⟩ := hdef
          simp only [hc]
          trivial
        · have hE := exec_sound (h := h) (w := w) S H0.env o
          rw [← eval_eq_ev] at hE
          refine opOut_ok so (c := b.atR a (.inRegion ops (i :: (List.range ops.size).drop (i + 1)) :: k)) (cs := cs) H0.rel hE ?_
          intro ρ' w' v u h' hp hv hds g
          have hs := step_goes (k := k) ho hwant (fun c hc => hdef ⟨c, hc⟩) g
          exact CMeets.mono (fun x e' h' hl => Leaf.of hp hs hl) (opsR_ok S so hops l (i + 1) hrest ρ' h' w' _ b _ k cs (H0.put hp hds hdst hv))

/-! pieces of code -/
theorem Left.pass {P : Program} {m : Machine} {b : Frame} {y : Item} {k : List Item} {cs : List Frame} {a : Act} {w : World} (h1 : ∀ id, exitTo id (y :: k) = exitTo id k) (h2 : ∀ l, gotoIn l (y :: k) = gotoIn l k) :
    ∀ {x : Ex}, x ≠ .normal → Left P m b (y :: k) cs x a w → Left P m b k cs x a w
  | .normal, hn, _ => (hn rfl).elim
  | .exit id, _, ⟨k', e, s⟩ => ⟨k', e.trans (h1 id), s⟩
  | .goto l, _, ⟨k', e, s⟩ => ⟨k', e.trans (h2 l), s⟩
  | .ret, _, ⟨k', s⟩ => ⟨k', s⟩
theorem Leaf.pass {P : Program} {ρ : Emb} {h : H} {w : World} {m : Machine} {b : Frame} {y : Item} {k : List Item} {cs : List Frame} {n : Nat} {e' : Env} {h' : H} (h1 : ∀ id, exitTo id (y :: k) = exitTo id k) (h2 : ∀ l, gotoIn l (y :: k) = gotoIn l k)
    {x : Ex} (hx : x ≠ .normal) (l : Leaf P ρ h w b (y :: k) cs n m x e' h') : Leaf P ρ h w b k cs n m x e' h' := by
  obtain ⟨ρ', w', a', l1, l2, l3⟩ := l
  exact ⟨ρ', w', a', l1, l2, l3.pass h1 h2 hx⟩
theorem exitTo_code (id : Nat) (c : Code) (k : List Item) : exitTo id (.code c :: k) = exitTo id k := by simp [exitTo]
theorem exitTo_inLoop (id : Nat) (c : Code) (k : List Item) : exitTo id (.inLoop c :: k) = exitTo id k := by simp [exitTo]
theorem exitTo_inScope (id : Nat) (c : Code) (k : List Item) : exitTo id (.inScope c :: k) = exitTo id k := by simp [exitTo]
theorem gotoIn_code (l : Nat) (c : Code) (k : List Item) : gotoIn l (.code c :: k) = gotoIn l k := by simp [gotoIn]
theorem gotoIn_inLoop (l : Nat) (c : Code) (k : List Item) : gotoIn l (.inLoop c :: k) = gotoIn l k := by simp [gotoIn]
theorem gotoIn_inBlock (l id : Nat) (k : List Item) : gotoIn l (.inBlock id :: k) = gotoIn l k := by simp [gotoIn]

/-- behind a piece of code, another one -/
theorem seqOut_ok {y : Item} {next : Rest} {r : Out} {m : Machine} (h1 : ∀ id, exitTo id (y :: k) = exitTo id k) (h2 : ∀ l, gotoIn l (y :: k) = gotoIn l k)
    (hr : CMeets (Leaf P ρ h w b (y :: k) cs n m) r)
    (hn : ∀ ρ' w' a' e' h', Here P ρ' h' w' e' b a' n → CMeets (Leaf P ρ' h' w' b k cs n (lone (b.atR a' (y :: k)) cs w')) (next self e' h')) :
    CMeets (Leaf P ρ h w b k cs n m) (seqOut next self r) := by
  refine outCode_C hr fun x e' h' hl => ?_
  cases x with
  | normal =>
    obtain ⟨ρ', w', a', l1, l2, l3⟩ := hl
    exact CMeets.mono (fun x e'' h'' hl => Leaf.of l1 l3 hl) (hn ρ' w' a' e' h' l2)
  | exit id => exact hl.pass h1 h2 (by simp)
  | goto l => exact hl.pass h1 h2 (by simp)
  | ret => exact hl.pass h1 h2 (by simp)

theorem findLabel_ok {l : Nat} : ∀ {c rest : Code}, findLabel c l = some rest → Okc P n c → Okc P n rest
  | .seq x y, rest, hf, ho => by
    simp only [findLabel] at hf
    cases hx : findLabel x l with
    | some r =>
      rw [hx] at hf
      simp only [Option.some.injEq] at hf
      subst hf
      exact ⟨findLabel_ok hx ho.1, ho.2⟩
    | none =>
      rw [hx] at hf
      exact findLabel_ok hf ho.2
  | .label l', rest, hf, ho => by
    simp only [findLabel] at hf
    split at hf
    · injection hf with hf; subst hf; trivial
    · cases hf
  | .skip, _, hf, _ => by simp [findLabel] at hf
  | .region _ _ _, _, hf, _ => by simp [findLabel] at hf
  | .cond _ _ _, _, hf, _ => by simp [findLabel] at hf
  | .block _ _, _, hf, _ => by simp [findLabel] at hf
  | .loop _, _, hf, _ => by simp [findLabel] at hf
  | .rangeFunc _ _ _ _, _, hf, _ => by simp [findLabel] at hf
  | .exit _, _, hf, _ => by simp [findLabel] at hf
  | .scope _, _, hf, _ => by simp [findLabel] at hf
  | .goto _, _, hf, _ => by simp [findLabel] at hf
  | .ret, _, hf, _ => by simp [findLabel] at hf
  | .refuse _, _, hf, _ => by simp [findLabel] at hf
theorem stepR_inScope {c : Code} : Go.step P (lone (b.atR a (.inScope c :: k)) cs w) = .next (lone (b.atR a k) cs w) :=
  step_lone_go (by simp [stepG, stepG.exec, Frame.atR])
theorem stepR_scope {c : Code} : Go.step P (lone (b.atR a (.code (.scope c) :: k)) cs w) = .next (lone (b.atR a (.code c :: .inScope c :: k)) cs w) :=
  step_lone_go (by simp [stepG, stepG.exec, Frame.atR])
theorem scopeOut_ok (so : SelfOk P self) {c : Code} {r : Out} {m : Machine} (hc : Okc P n c) (hr : CMeets (Leaf P ρ h w b (.inScope c :: k) cs n m) r) :
    CMeets (Leaf P ρ h w b k cs n m) (scopeOut c self r) := by
  refine outCode_C hr fun x e' h' hl => ?_
  cases x with
  | normal =>
    obtain ⟨ρ', w', a', l1, l2, l3⟩ := hl
    exact ⟨ρ', w', a', l1, l2, Steps.trans l3 (.one stepR_inScope)⟩
  | exit id =>
    obtain ⟨ρ', w', a', l1, l2, k', l3, l4⟩ := hl
    exact ⟨ρ', w', a', l1, l2, k', l3.trans (exitTo_inScope id c k), l4⟩
  | goto l =>
    obtain ⟨ρ', w', a', l1, l2, k', l3, l4⟩ := hl
    simp only
    cases hf : findLabel c l with
    | none =>
      refine ⟨ρ', w', a', l1, l2, k', l3.trans ?_, l4⟩
      simp [gotoIn, hf]
    | some rest =>
      have hg : gotoIn l k' = some (.code rest :: .inScope c :: k) := by rw [l3]; simp [gotoIn, hf]
      exact CMeets.mono (fun x e'' h'' hl => Leaf.of l1 (l4.trans (.one (stepR_goto hg))) hl) (so.scope c rest e' h' ρ' w' b a' k cs n l2 hc (findLabel_ok hf hc))
  | ret =>
    obtain ⟨ρ', w', a', l1, l2, k', l4⟩ := hl
    exact ⟨ρ', w', a', l1, l2, k', l4⟩
theorem blockOut_ok {id : Nat} {r : Out} {m : Machine} (hr : CMeets (Leaf P ρ h w b (.inBlock id :: k) cs n m) r) : CMeets (Leaf P ρ h w b k cs n m) (blockOut id r) := by
  refine outCode_C hr fun x e' h' hl => ?_
  cases x with
  | normal =>
    obtain ⟨ρ', w', a', l1, l2, l3⟩ := hl
    exact ⟨ρ', w', a', l1, l2, Steps.trans l3 (.one stepR_inBlock)⟩
  | exit i =>
    obtain ⟨ρ', w', a', l1, l2, k', l3, l4⟩ := hl
    simp only
    cases hb : Nat.beq i id with
    | true =>
      have hi := nbeq.1 hb
      subst hi
      have hx : exitTo i k' = some k := by rw [l3]; simp [exitTo]
      exact ⟨ρ', w', a', l1, l2, l4.trans (.one (stepR_exit hx))⟩
    | false =>
      have hne : (id == i) = false := by
        have : i ≠ id := fun hh => by subst hh; simp at hb
        simpa using Ne.symm this
      exact ⟨ρ', w', a', l1, l2, k', l3.trans (by simp [exitTo, hne]), l4⟩
  | goto l =>
    obtain ⟨ρ', w', a', l1, l2, k', l3, l4⟩ := hl
    exact ⟨ρ', w', a', l1, l2, k', l3.trans (gotoIn_inBlock l id k), l4⟩
  | ret =>
    obtain ⟨ρ', w', a', l1, l2, k', l4⟩ := hl
    exact ⟨ρ', w', a', l1, l2, k', l4⟩
theorem condOut_ok {c : Operand} {x y : Code} {f g : Rest} {v : AV} (H0 : Here P ρ h w e b a n) (hv : eval e c = v)
    (hf : ∀ t, CMeets (Leaf P ρ h w b k cs n (lone (b.atR a (.code (if t = true then x else y) :: k)) cs w)) (Bool.rec (motive := fun _ => Out) (g self e h) (f self e h) t)) :
    CMeets (Leaf P ρ h w b k cs n (lone (b.atR a (.code (.cond c x y) :: k)) cs w)) (condOut f g self e h v) := by
  unfold condOut
  split
  · rename_i t
    have hc : a.eval c = .bool t := by
      have := eval_rel H0.env c
      rw [hv] at this
      simp only [VRel] at this
      rw [eval_eq_ev]; exact this
    exact CMeets.mono (fun _ _ _ hl => Leaf.of (Post.refl H0.rel) (.one (stepR_cond hc)) hl) (hf t)
  · trivial
end
end Go.Proofs.YtfkpcifchgnmnaaGreatDoor.Ev
end

noncomputable section
namespace Go.Proofs.YtfkpcifchgnmnaaGreatDoor.Ev
section
variable {P : Program} {ρ : Emb} {h : H} {w : World} {e : Env} {b : Frame} {a : Act} {k : List Item} {cs : List Frame} {n : Nat} {ops : Array Oper} {self : Self}

/-! a loop over a function -/
theorem run_enterLoop_fn (fn : FuncId) (tmps : Array Value) (ps : Array Nat) (assign body : Code) : (Instr.enterLoop fn tmps ps assign body none).run P w =
    .ok (w.heap.size + 1, [{ target := .collected w.heap.size, args := #[] }])
      { w with heap := (w.heap.push (.deferred (some []))).push (.loop { state := .ready, pending := none, fn, tmps, params := ps, assign, body, defers := w.heap.size }) } := by
  simp [Instr.enterLoop]
  rfl
theorem run_enterLoop_round {l : Nat} {r : Loop} (hl : w.heap[l]? = some (.loop r)) (fn : FuncId) (tmps : Array Value) (ps : Array Nat) (assign body : Code) : (Instr.enterLoop fn tmps ps assign body (some l)).run P w =
    .ok (w.heap.size, []) { w with heap := w.heap.push (.loop { state := .ready, pending := none, fn, tmps, params := ps, assign, body, defers := r.defers }) } := by
  simp [Instr.enterLoop, Instr.getLoop, getObj, Sem.run, hl]
theorem run_getLoop {l : Nat} {r : Loop} (hl : w.heap[l]? = some (.loop r)) : (Instr.getLoop l).run P w = .ok r w := by
  simp [Instr.getLoop, getObj, Sem.run, hl]
theorem run_setLoop {l : Nat} {r : Loop} (hl : w.heap[l]? = some (.loop r)) (o : Obj) : (setObj l o).run P w = .ok () { w with heap := w.heap.setIfInBounds l o } := by simp [setObj, Sem.run, hl]
theorem run_endLoop {l : Nat} {r : Loop} (hl : w.heap[l]? = some (.loop r)) (hs : r.state ≠ .busy) :
    (Instr.endLoop l).run P w = .ok r.pending { w with heap := w.heap.setIfInBounds l (.loop { r with state := .exhausted }) } := by
  have hb : (r.state == .busy) = false := by
    cases hst : r.state <;> first | rfl | exact absurd hst hs
  unfold Instr.endLoop
  simp only [Sem.run_bind, run_getLoop hl, Result.andThen_ok, hb, Bool.false_eq_true, if_false, run_setLoop hl, Sem.run_pure]
theorem run_beginRound {l : Nat} {r : Loop} (hl : w.heap[l]? = some (.loop r)) (hs : r.state = .ready) :
    (Instr.beginRound l).run P w = .ok () { w with heap := w.heap.setIfInBounds l (.loop { r with state := .busy }) } := by
  unfold Instr.beginRound
  simp only [Sem.run_bind, run_getLoop hl, Result.andThen_ok, run_setLoop hl, hs, Sem.run_pure]
theorem run_endRound {l : Nat} {r : Loop} (hl : w.heap[l]? = some (.loop r)) (j : Option Code) :
    (Instr.endRound l j).run P w = .ok (.bool j.isNone) { w with heap := w.heap.setIfInBounds l (.loop { r with state := if j.isNone then .ready else .done, pending := j }) } := by
  unfold Instr.endRound
  simp only [Sem.run_bind, run_getLoop hl, Result.andThen_ok, run_setLoop hl, Sem.run_pure]
theorem step_range {g : Operand} {ps : Array Tmp} {assign body : Code} {l : Nat} {mark : List Deferred} {w₁ w' : World} {v : Value}
    (he : (Instr.enterLoop b.fn a.tmps ps assign body b.roundOf).run P w = .ok (l, mark) w₁)
    (gs : Goes P (do let d ← Deferred.ofValue (a.eval g) #[.func (.yield l) #[] #[]]; invoke d.target d.args) (b.atR { a with defers := mark ++ a.defers } (.inRangeFunc l :: k)) cs w₁ v w') :
    Steps P (lone (b.atR a (.code (.rangeFunc g ps assign body) :: k)) cs w) (lone (b.atR { a with defers := mark ++ a.defers } (.endRangeFunc l :: k)) cs w') := by
  have hev := Frame.eval_atR b { a with defers := mark ++ a.defers } (.inRangeFunc l :: k)
  simp only [Frame.atR] at hev
  have hfin := fun v => finish_atR_inRangeFunc (b := b) (a := { a with defers := mark ++ a.defers }) (k := k) l v
  simp only [Frame.atR] at hfin
  have hres : resolve ({ tmps := a.tmps, defers := mark ++ a.defers } : Act).eval { callee := .value g, args := #[.const (.func (.yield l) #[] #[])], argTypes := #[] } 0 = Deferred.ofValue (a.eval g) #[.func (.yield l) #[] #[]] := by
    have : ({ tmps := a.tmps, defers := mark ++ a.defers } : Act).eval = a.eval := by funext x; cases x <;> rfl
    rw [this]
    simp [resolve]
    rfl
  have key : ∀ {n : Next} {w₂ : World} (_ : (do let d ← Deferred.ofValue (a.eval g) #[.func (.yield l) #[] #[]]; invoke d.target d.args : Sem Next).run P w₁ = .ok n w₂),
      ((Deferred.ofValue (a.eval g) #[.func (.yield l) #[] #[]]).run P w₁).andThen (fun d w' => (invoke d.target d.args).run P w') = .ok n w₂ := by
    intro n w₂ hr
    rw [← Sem.run_bind]; exact hr
  rcases gs with hr | ⟨rfl, hr⟩ | ⟨f, args, w₂, hr, hs⟩ | ⟨l', f, tmps, as, bd, w₂, hr, hs⟩
  · exact .one (step_lone_go (by simp [stepG, stepG.exec, Frame.atR, Sem.runT_eq, he, GStep.bare_after, stepG.apply, hev, Sem.run_bind, hres, key hr, hfin]))
  · exact .one (step_lone_go (by simp [stepG, stepG.exec, Frame.atR, Sem.runT_eq, he, GStep.bare_after, stepG.apply, hev, Sem.run_bind, hres, key hr, hfin]))
  · rw [finish_atR_inRangeFunc] at hs
    exact .head (step_lone_go (by simp [stepG, stepG.exec, Frame.atR, Sem.runT_eq, he, GStep.bare_after, stepG.apply, hev, Sem.run_bind, hres, key hr])) hs
  · rw [finish_atR_inRangeFunc] at hs
    exact .head (step_lone_go (by simp [stepG, stepG.exec, Frame.atR, Sem.runT_eq, he, GStep.bare_after, stepG.apply, hev, Sem.run_bind, hres, key hr])) hs
theorem Post.mark {ρ' : Emb} {h' : H} {w' : World} (p : Post P ρ h w ρ' h' w') (ds : Marks) : Post P ρ h w ρ' (h'.mark ds) w' := ⟨p.sub, p.fresh, p.rel.mark ds, p.keep, p.foot, p.lo, p.old, p.next, p.off⟩
theorem Post.unmark {ρ' : Emb} {h' : H} {w' : World} {ds : Marks} (p : Post P ρ (h.mark ds) w ρ' h' w') : Post P ρ h w ρ' h' w' := ⟨p.sub, p.fresh, p.rel, p.keep, p.foot, p.lo, p.old, p.next, p.off⟩
theorem WRel.loop (r : WRel P ρ h w) {i : Nat} {ex : Ext} (he : ρ i = some ex) {st : LoopState} {pe : Option Code} {tm : Env} {ps : List Nat} {x y : Code} (ho : h.get i = .loop st pe tm ps x y) :
    ∃ l : Loop, w.heap[ex.block]? = some (.loop l) ∧ l.state = st ∧ l.pending = pe ∧ l.params.toList = ps ∧ l.assign = x ∧ l.body = y ∧
      ERel ρ tm l.tmps ∧ Okc P l.tmps.size x ∧ Okc P l.tmps.size y ∧ ∀ p ∈ ps, p < l.tmps.size := by
  have := r.obj i ex he
  rw [ho] at this
  exact this
theorem exOf_left {pe : Option Code} {x : Ex} (hx : exOf pe = some x) {m : Machine} (hs : Steps P m (lone (b.atR a ((pe.map Item.code).toList ++ k)) cs w)) : Left P m b k cs x a w := by
  cases pe with
  | none => simp only [exOf, Option.some.injEq] at hx; subst hx; exact hs
  | some c =>
    cases c with
    | exit id => simp only [exOf, Option.some.injEq] at hx; subst hx; exact ⟨k, rfl, hs⟩
    | goto l => simp only [exOf, Option.some.injEq] at hx; subst hx; exact ⟨k, rfl, hs⟩
    | ret => simp only [exOf, Option.some.injEq] at hx; subst hx; exact ⟨k, hs⟩
    | _ => simp [exOf] at hx
theorem range_tail (so : SelfOk P self) (H0 : Here P ρ h w e b a n) {f : Operand} {ps : Array Tmp} {assign body : Code} {blk : Nat} {mark : List Deferred} {w₁ : World} {ρ₁ : Emb} {h₁ : H} {L : Nat} {ex : Ext}
    (he : (Instr.enterLoop b.fn a.tmps ps assign body b.roundOf).run P w = .ok (blk, mark) w₁) (p : Post P ρ h w ρ₁ h₁ w₁) (hL : ρ₁ L = some ex) (hblk : ex.block = blk) (hm : DRel ρ₁ b.roundOf h₁.ds (mark ++ a.defers)) :
    CMeets (Leaf P ρ h w b k cs n (lone (b.atR a (.code (.rangeFunc f ps assign body) :: k)) cs w)) (rangeOut L e (self (.callv (eval e f) [.func (.yield L) [] []] h₁))) := by
  have hf := eval_rel (H0.env.mono p.sub) f
  rw [← eval_eq_ev] at hf
  have hy : VRels ρ₁ [.func (.yield L) [] []] (#[Value.func (.yield blk) #[] #[]] : Array Value).toList := by
    refine VRels.cons ?_ VRels.nil
    simp only [VRel]
    exact ⟨ex, hL, by rw [hblk]⟩
  refine outVal_C (so.callv _ _ h₁ ρ₁ w₁ _ _ (b.atR { a with defers := mark ++ a.defers } (.inRangeFunc blk :: k)) cs p.rel hf hy) ?_
  rintro v h₂ ⟨ρ₂, w₂, u, p2, hv, hds, g⟩
  have hstep := step_range he g
  have hL2 := p2.sub _ _ hL
  try simp only
  split
  · trivial
  · rename_i st pe tm ps' x y hst hg
    split
    · rename_i ex' h₃ hex hp
      obtain ⟨l, l1, l2, l3, l4, l5, l6, l7, l8, l9, l10⟩ := p2.rel.loop hL2 hg
      have hnb : l.state ≠ .busy := by
        rw [l2]; intro hh; exact hst hh
      have hend := run_endLoop (P := P) l1 hnb
      obtain ⟨q1, q2⟩ := put_sound p2.rel hL2 hp (by rw [hg]; simp) (p2.rel.noRow hL2 l1 (by simp)) (x := .loop { l with state := .exhausted })
        ⟨{ l with state := .exhausted }, rfl, rfl, l3, l4, l5, l6, l7, l8, l9, l10⟩
      rw [hblk] at hend q1
      refine ⟨ρ₂, _, { a with defers := mark ++ a.defers }, (p.trans p2).trans q1, ⟨q1.rel, (H0.env.mono p.sub).mono p2.sub, H0.size, ?_, H0.kind⟩, ?_⟩
      · rw [q2, hds]; exact hm.mono p2.sub
      · refine exOf_left hex (hstep.trans (.one ?_))
        rw [← l3]
        exact stepR_endRangeFunc hend
    · trivial
  · trivial
theorem rangeIn_ok (so : SelfOk P self) (H0 : Here P ρ h w e b a n) {f : Operand} {ps : Array Tmp} {assign body : Code} (hps : ∀ p ∈ ps.toList, p < n) (ha : Okc P n assign) (hb : Okc P n body) :
    CMeets (Leaf P ρ h w b k cs n (lone (b.atR a (.code (.rangeFunc f ps assign body) :: k)) cs w)) (rangeIn f ps assign body self e h) := by
  have hM := H0.marks
  have hsz := H0.size
  unfold rangeIn
  cases hds : h.ds with
  | fn ds =>
    rw [hds] at hM
    cases hro : b.roundOf with
    | some r => rw [hro] at hM; exact hM.elim
    | none =>
      rw [hro] at hM
      have p1 := Post.add H0.rel .deferred (.deferred (some [])) 0 0 (fun _ _ _ _ hh => by cases hh) (fun _ _ _ => rfl)
      have p2 := Post.add p1.rel (.loop .ready none e ps.toList assign body) (.loop { state := .ready, pending := none, fn := b.fn, tmps := a.tmps, params := ps, assign, body, defers := w.heap.size }) 0 0 (fun _ _ _ _ hh => by cases hh)
        (fun ρ' hsub _ => ⟨_, rfl, rfl, rfl, rfl, rfl, rfl, (H0.env.mono p1.sub).mono hsub, by rw [hsz]; exact ha, by rw [hsz]; exact hb, by rw [hsz]; exact hps⟩)
      have he := run_enterLoop_fn (P := P) (w := w) b.fn a.tmps ps assign body
      rw [← hro] at he
      refine range_tail so H0 he ((p1.trans p2).mark _) (L := Nat.succ h.next) (ex := ⟨w.heap.size + 1, 0, 0, 0⟩) ?_ rfl ?_
      · simp [H.next_add]
      · rw [hro]
        refine ⟨⟨w.heap.size, 0, 0, 0⟩, a.defers, ?_, rfl, DMarks.mono (p1.trans p2).sub hM⟩
        exact p2.sub _ _ (if_pos rfl)
  | round r =>
    rw [hds] at hM
    cases hro : b.roundOf with
    | none => rw [hro] at hM; exact hM.elim
    | some l0 =>
      rw [hro] at hM
      obtain ⟨⟨ex, hr, hblk⟩, hd0⟩ := hM
      simp only
      split
      · rename_i st pe tm ps' x y hg
        obtain ⟨l, l1, _⟩ := H0.rel.loop hr hg
        rw [hblk] at l1
        have p1 := Post.add H0.rel (.loop .ready none e ps.toList assign body) (.loop { state := .ready, pending := none, fn := b.fn, tmps := a.tmps, params := ps, assign, body, defers := l.defers }) 0 0 (fun _ _ _ _ hh => by cases hh)
          (fun ρ' hsub _ => ⟨_, rfl, rfl, rfl, rfl, rfl, rfl, H0.env.mono hsub, by rw [hsz]; exact ha, by rw [hsz]; exact hb, by rw [hsz]; exact hps⟩)
        have he := run_enterLoop_round (P := P) (w := w) l1 b.fn a.tmps ps assign body
        rw [← hro] at he
        refine range_tail so H0 he p1 (L := h.next) (ex := ⟨w.heap.size, 0, 0, 0⟩) (if_pos rfl) rfl ?_
        rw [hro, H.ds_add, hds]
        exact ⟨⟨ex, p1.sub _ _ hr, hblk⟩, hd0⟩
      · trivial

/-! what a function hands back -/
theorem unmark_ok : ∀ (l : List Nat) {ds : List Deferred} {h : H} {w : World}, DMarks ρ l ds → WRel P ρ h w → ∀ {h' : H}, unmark l h = some h' → ∀ (fr : Frame) (cs : List Frame), fr.mode ≠ .run → fr.defers = ds →
    ∃ w', Post P ρ h w ρ h' w' ∧ Steps P (lone fr cs w) (lone { fr with defers := [] } cs w')
  | [], ds, h, w, hm, r, h', hu, fr, cs, hmode, hd => by
    change some h = some h' at hu
    injection hu with hu; subst hu
    change ds = [] at hm
    subst hm
    refine ⟨w, Post.refl r, ?_⟩
    have : ({ fr with defers := [] } : Frame) = fr := by cases fr; simp_all
    rw [this]
    exact Steps.refl P _
  | d :: l, ds, h, w, hm, r, h', hu, fr, cs, hmode, hd => by
    obtain ⟨ex, ds', he, rfl, hm'⟩ := hm
    have hu' : (match h.get d with | .deferred => (match h.put d .none with | some h => unmark l h | none => none) | _ => none) = some h' := hu
    cases hg : h.get d with
    | deferred =>
      rw [hg] at hu'
      simp only at hu'
      cases hp : h.put d .none with
      | none => rw [hp] at hu'; simp at hu'
      | some h₁ =>
        rw [hp] at hu'
        simp only at hu'
        have ho := r.obj d ex he
        rw [hg] at ho
        change w.heap[ex.block]? = some (.deferred (some [])) at ho
        obtain ⟨q1, q2⟩ := put_sound r he hp (by rw [hg]; simp) (r.noRow he ho (by simp)) (x := .deferred none) trivial
        have htake : (Instr.takeDeferred ex.block).run P w = .ok [] { w with heap := w.heap.setIfInBounds ex.block (.deferred none) } := by
          simp [Instr.takeDeferred, getObj, setObj, Sem.run, ho]
        have hstep := step_collected (P := P) (cs := cs) hmode hd rfl htake
        obtain ⟨w', p, s⟩ := unmark_ok l hm' q1.rel hu' { fr with defers := [] ++ ds' } cs hmode rfl
        exact ⟨w', q1.trans p, .head hstep s⟩
    | _ => rw [hg] at hu'; simp at hu'
theorem results_ok (S : Sane P) (r : WRel P ρ h w) {tmps : Array Value} (hE : ERel ρ e tmps) : ∀ (rs : List ResultVar) {l : List AV}, results P e h rs = some l →
    ∃ vs : List Value, VRels ρ l vs ∧ (rs.mapM (m := Sem) fun
      | .tmp t => pure (tmps.getD t Go.undef)
      | .cell a t => do loadVar t (← asAddr (tmps.getD a Go.undef))).run P w = .ok vs w
  | [], l, hl => by
    change some [] = some l at hl
    injection hl with hl; subst hl
    exact ⟨[], VRels.nil, rfl⟩
  | x :: rs, l, hl => by
    have hl' : (match (generalizing := false) x, results P e h rs with
      | .tmp t, some l => some (getT e t :: l)
      | .cell a t, some l => (match getT e a with | .ptr id off => (match loadA P t h id off with | .read v => some (v :: l) | _ => none) | _ => none)
      | _, _ => none) = some l := hl
    cases hr : results P e h rs with
    | none => rw [hr] at hl'; cases x <;> simp at hl'
    | some l' =>
      rw [hr] at hl'
      obtain ⟨vs, v1, v2⟩ := results_ok S r hE rs hr
      cases x with
      | tmp t =>
        simp only [Option.some.injEq] at hl'
        subst hl'
        refine ⟨_ :: vs, VRels.cons (hE t) v1, ?_⟩
        rw [List.mapM_cons]
        simp only [Sem.run_bind, Sem.run_pure, Result.andThen_ok, v2]
      | cell a t =>
        simp only at hl'
        have ha := hE a
        split at hl'
        · rename_i id off hpt
          rw [hpt] at ha
          obtain ⟨ex, he, hv⟩ := ha.ptr_inv
          split at hl'
          · rename_i v hload
            simp only [Option.some.injEq] at hl'
            subst hl'
            obtain ⟨u, u1, u2⟩ := loadVar_sound S r he hload
            refine ⟨u :: vs, VRels.cons u1 v1, ?_⟩
            have ha2 : (asAddr (tmps.getD a Go.undef)).run P w = .ok ⟨ex.block, ex.off + off, none⟩ w := by rw [hv]; rfl
            rw [List.mapM_cons]
            simp only [Sem.run_bind, Sem.run_pure, Result.andThen_ok, ha2, u2, v2]
          · cases hl'
        · cases hl'
end
end Go.Proofs.YtfkpcifchgnmnaaGreatDoor.Ev
end

noncomputable section
namespace Go.Proofs.YtfkpcifchgnmnaaGreatDoor.Ev
section
variable {P : Program} {ρ : Emb} {h : H} {w : World} {e : Env} {b : Frame} {a : Act} {k : List Item} {cs : List Frame} {n : Nat} {ops : Array Oper} {self : Self}

theorem Okc.mono {n m : Nat} (hnm : n ≤ m) : ∀ {c : Code}, Okc P n c → Okc P m c
  | .region _ _ _, ⟨h1, h2⟩ => ⟨fun o ho d hd => Nat.lt_of_lt_of_le (h1 o ho d hd) hnm, h2⟩
  | .seq _ _, ⟨h1, h2⟩ => ⟨Okc.mono hnm h1, Okc.mono hnm h2⟩
  | .cond _ _ _, ⟨h1, h2⟩ => ⟨Okc.mono hnm h1, Okc.mono hnm h2⟩
  | .block _ c, h => Okc.mono (c := c) hnm h
  | .loop c, h => Okc.mono (c := c) hnm h
  | .rangeFunc _ _ _ _, ⟨h1, h2, h3⟩ => ⟨fun p hp => Nat.lt_of_lt_of_le (h1 p hp) hnm, Okc.mono hnm h2, Okc.mono hnm h3⟩
  | .scope c, h => Okc.mono (c := c) hnm h
  | .skip, _ => trivial
  | .exit _, _ => trivial
  | .label _, _ => trivial
  | .goto _, _ => trivial
  | .ret, _ => trivial
  | .refuse _, _ => trivial

theorem retVal_leaves (S : Sane P) {ρ₀ : Emb} {h₀ : H} {w₀ : World} {m : Machine} {fn : Func} {ds : Marks} (hf : P.funcs[b.fn]? = some fn) (hro : b.roundOf = none) (p : Post P ρ₀ h₀ w₀ ρ h w) (H0 : Here P ρ h w e b a n) {todo : List Item}
    (hs : Steps P m (lone { b.atR a todo with mode := .returning } cs w)) :
    VMeets (fun v h' => ∃ ρ' w' u fr, Post P ρ₀ h₀ w₀ ρ' h' w' ∧ VRel ρ' v u ∧ h'.ds = ds ∧ Steps P m (lone fr cs w') ∧ fr.fn = b.fn ∧ Frame.leaving P fr w' (.returned u)) (retVal P fn ds e h) := by
  have hM := H0.marks
  rw [hro] at hM
  unfold retVal unmarkH
  cases hds : h.ds with
  | round r => trivial
  | fn l =>
    rw [hds] at hM
    simp only
    cases hu : unmark l h with
    | none => trivial
    | some h₁ =>
      simp only
      obtain ⟨w₁, p1, s1⟩ := unmark_ok l hM H0.rel hu { b.atR a todo with mode := .returning } cs (by simp) rfl
      cases hr : results P e h₁ fn.results.toList with
      | none => trivial
      | some rl =>
        obtain ⟨vs, v1, v2⟩ := results_ok S p1.rel (H0.env.mono p1.sub) fn.results.toList hr
        have hrun : (Go.results fn a.tmps).run P w₁ = .ok (if h : vs.length = 1 then vs[0] else .tuple vs.toArray) w₁ := by
          unfold Go.results
          rw [Array.mapM_eq_mapM_toList, Sem.run_bind, map_eq_pure_bind, Sem.run_bind]
          erw [v2]
          simp only [Result.andThen_ok, Sem.run_pure, List.size_toArray, List.getElem_toArray]
        have hleave : Frame.leaving P { { b.atR a todo with mode := .returning } with defers := [] } w₁ (.returned (if h : vs.length = 1 then vs[0] else .tuple vs.toArray)) :=
          ⟨rfl, rfl, H0.kind, fn, hf, hrun⟩
        have hfin := hs.trans s1
        have pp := p.trans p1
        have hlen := v1.length
        match rl, v1, hlen with
        | [v], v1, hlen =>
          have h1 : vs.length = 1 := by simpa using hlen.symm
          match vs, v1, h1, hleave with
          | [u], v1, h1, hleave =>
            simp only [VRels] at v1
            obtain ⟨u', ws, e1, r1, _⟩ := v1
            injection e1 with e1 e2
            subst e1
            exact ⟨ρ, w₁, u, _, pp.mark ds, r1, rfl, hfin, rfl, by simpa using hleave⟩
        | [], v1, hlen =>
          have h1 : ¬ vs.length = 1 := by simp at hlen; omega
          refine ⟨ρ, w₁, .tuple vs.toArray, _, pp.mark ds, ?_, rfl, hfin, rfl, by rw [dif_neg h1] at hleave; exact hleave⟩
          simp only [VRel]
          exact ⟨_, rfl, v1⟩
        | _ :: _ :: _, v1, hlen =>
          have h1 : ¬ vs.length = 1 := by simp at hlen; omega
          refine ⟨ρ, w₁, .tuple vs.toArray, _, pp.mark ds, ?_, rfl, hfin, rfl, by rw [dif_neg h1] at hleave; exact hleave⟩
          simp only [VRel]
          exact ⟨_, rfl, v1⟩

theorem enterEnv_get : ∀ (l : List AV) (i : Nat) (e : Env) (t : Nat), getT (enterEnv l i e) t = if i ≤ t ∧ t < i + l.length then l.getD (t - i) undef else getT e t
  | [], i, e, t => by
    show getT e t = _
    rw [if_neg (by simp)]
  | x :: l, i, e, t => by
    show getT (enterEnv l (i + 1) (setT e i x)) t = _
    rw [enterEnv_get l (i + 1) (setT e i x) t, getT_setT]
    by_cases h1 : t = i
    · subst h1
      rw [if_neg (by omega), if_pos rfl, if_pos (by simp)]
      simp
    · by_cases h2 : i + 1 ≤ t ∧ t < i + 1 + l.length
      · rw [if_pos h2, if_pos (by simp; omega)]
        rw [show t - i = t - (i + 1) + 1 by omega]
        rfl
      · rw [if_neg h2, if_neg h1, if_neg (by simp; omega)]
theorem enterEnv_rel {l : List AV} {us : Array Value} (hv : VRels ρ l us.toList) (m : Nat) : ERel ρ (enterEnv l 0 .nil) (us ++ Array.replicate m Go.undef) := by
  intro t
  have hlen := hv.length
  simp at hlen
  rw [enterEnv_get]
  by_cases ht : t < l.length
  · rw [if_pos (by omega)]
    obtain ⟨v, v1, v2⟩ := hv.get t (l[t]) (List.getElem?_eq_getElem ht)
    have h1 : l.getD (t - 0) undef = l[t] := by simp [List.getD, List.getElem?_eq_getElem ht]
    have h2 : (us ++ Array.replicate m Go.undef).getD t Go.undef = v := by
      have : us[t]? = some v := by simpa using v1
      rw [Array.getD_eq_getD_getElem?, Array.getElem?_append_left (by omega), this]
      rfl
    rw [h1, h2]; exact v2
  · rw [if_neg (by omega), getT_nil]
    have h2 : (us ++ Array.replicate m Go.undef).getD t Go.undef = Go.undef := by
      rw [Array.getD_eq_getD_getElem?, Array.getElem?_append_right (by omega)]
      rw [Array.getElem?_replicate]
      split <;> rfl
    rw [h2]
    exact VRel.undef

/-- what codeR is to have been shown to say -/
def CodesOk (P : Program) (self : Self) : Prop := ∀ c e h, CodeOk P c e h (codeR P c self e h)

theorem bodyCall_leaves (S : Sane P) (co : CodesOk P self) {f : FuncId} {fn : Func} {c : Code} (hf : P.funcs[f]? = some fn) (hb : fn.body = some c) (W : WRel P ρ h w) {args : List AV} {us : Array Value} (hus : VRels ρ args us.toList) (cs : List Frame) :
    VMeets (fun v h' => ∃ ρ' w' u fr, Post P ρ h w ρ' h' w' ∧ VRel ρ' v u ∧ h'.ds = h.ds ∧ Steps P (lone (Frame.enter P f us .normal) cs w) (lone fr cs w') ∧ fr.fn = f ∧ Frame.leaving P fr w' (.returned u)) (bodyCall P fn c self args h) := by
  let b : Frame := { (default : Frame) with fn := f, kind := .normal, roundOf := none }
  let a : Act := { tmps := us ++ Array.replicate (fn.ntmps - us.size) Go.undef, defers := [] }
  have henter : Frame.enter P f us .normal = b.atR a [.code c] := by
    simp [Frame.enter, Frame.atR, hf, hb, a, b]
  rw [henter]
  have H0 : Here P ρ (h.mark (.fn [])) w (enterEnv args 0 .nil) b a a.tmps.size := ⟨W.mark _, enterEnv_rel hus _, rfl, rfl, rfl⟩
  have hok : Okc P a.tmps.size c := Okc.mono (by simp [a]; omega) (S.code f fn c hf hb)
  have hc := co c (enterEnv args 0 .nil) (h.mark (.fn [])) ρ w b a [] cs a.tmps.size H0 hok
  refine outCode_V hc ?_
  rintro x e' h' ⟨ρ', w', a', l1, l2, l3⟩
  cases x with
  | normal => exact retVal_leaves S (b := b) hf rfl l1.unmark l2 (Steps.trans l3 (.one (stepR_end rfl)))
  | exit id => trivial
  | goto l => trivial
  | ret =>
    obtain ⟨k', l3⟩ := l3
    exact retVal_leaves S (b := b) hf rfl l1.unmark l2 (Steps.trans l3 (.one (stepR_ret rfl)))
theorem bodyCall_ok (S : Sane P) (co : CodesOk P self) {f : FuncId} {fn : Func} {c : Code} (hf : P.funcs[f]? = some fn) (hb : fn.body = some c) (W : WRel P ρ h w) {args : List AV} {us : Array Value} (hus : VRels ρ args us.toList) (c0 : Frame) (cs : List Frame) :
    VMeets (fun v h' => ∃ ρ' w' u, Post P ρ h w ρ' h' w' ∧ VRel ρ' v u ∧ h'.ds = h.ds ∧ Steps P (lone (Frame.enter P f us .normal) (c0 :: cs) w) (lone (c0.finish u) cs w')) (bodyCall P fn c self args h) := by
  refine VMeets.mono ?_ (bodyCall_leaves S co hf hb W hus (c0 :: cs))
  rintro v h' ⟨ρ', w', u, fr, p, hv, hds, hs, _, hl⟩
  exact ⟨ρ', w', u, p, hv, hds, hs.trans (.one (step_leave_returned hl))⟩

/-! a round of a loop over a function -/
theorem bindParams_rel : ∀ (ps : List Nat) (args : List AV) (us : List Value) {tm : Env} {tmps : Array Value}, ERel ρ tm tmps → VRels ρ args us → (∀ p ∈ ps, p < tmps.size) → ps.length = args.length →
    ERel ρ (bindParams ps args tm) ((ps.zip us).foldl (fun tmps (p : Nat × Value) => tmps.setIfInBounds p.1 p.2) tmps) ∧ ((ps.zip us).foldl (fun tmps (p : Nat × Value) => tmps.setIfInBounds p.1 p.2) tmps).size = tmps.size
  | [], args, us, tm, tmps, hE, hv, hp, hl => by
    cases args with
    | nil => simp only [VRels] at hv; subst hv; exact ⟨hE, rfl⟩
    | cons x args => simp at hl
  | p :: ps, args, us, tm, tmps, hE, hv, hp, hl => by
    cases args with
    | nil => simp at hl
    | cons x args =>
      simp only [VRels] at hv
      obtain ⟨u, us', rfl, v1, v2⟩ := hv
      have := bindParams_rel ps args us' (hE.set (hp p (by simp)) v1) v2 (fun q hq => by simpa using hp q (by simp [hq])) (by simpa using hl)
      refine ⟨this.1, ?_⟩
      have h2 := this.2
      simp only [List.zip_cons_cons, List.foldl_cons]
      rw [h2]; simp
theorem run_yield {l : Nat} {r : Loop} (hl : w.heap[l]? = some (.loop r)) {us : Array Value} (hn : us.size = r.params.size) :
    (Instr.yield l us).run P w = .ok (.round l r.fn ((r.params.zip us).foldl (fun tmps (t, a) => tmps.setIfInBounds t a) r.tmps) r.assign r.body) w := by
  unfold Instr.yield
  simp only [Sem.run_bind, run_getLoop hl, Result.andThen_ok]
  simp [hn]
theorem round_ok (S : Sane P) (co : CodesOk P self) {L : Nat} {ex : Ext} (W : WRel P ρ h w) (hL : ρ L = some ex) {args : List AV} {us : Array Value} (hus : VRels ρ args us.toList) {st : LoopState} {pe : Option Code} {tm : Env} {ps : List Nat} {x y : Code}
    (hg : h.get L = .loop st pe tm ps x y) (hn : ps.length = args.length) (c0 : Frame) (cs : List Frame) :
    VMeets (fun v h' => ∃ ρ' w' u, Post P ρ h w ρ' h' w' ∧ VRel ρ' v u ∧ h'.ds = h.ds ∧
      ∃ l f tmps assign body, (Instr.yield ex.block us).run P w = .ok (.round l f tmps assign body) w ∧ Steps P (lone (Frame.round l f tmps assign body .normal) (c0 :: cs) w) (lone (c0.finish u) cs w'))
      (beginOut (codeR P y) self L h.ds (codeR P x self (bindParams ps args tm) (h.mark (.round L)))) := by
  obtain ⟨r, r1, r2, r3, r4, r5, r6, r7, r8, r9, r10⟩ := W.loop hL hg
  have hlen := hus.length
  have hsz : us.size = r.params.size := by
    have : r.params.toList.length = ps.length := by rw [r4]
    simp at this hlen; omega
  have hyield := run_yield (P := P) r1 hsz
  obtain ⟨e1, e2⟩ := bindParams_rel ps args us.toList r7 hus r10 hn
  have hfold : (r.params.zip us).foldl (fun tmps (t, a) => tmps.setIfInBounds t a) r.tmps = (ps.zip us.toList).foldl (fun tmps (p : Nat × Value) => tmps.setIfInBounds p.1 p.2) r.tmps := by
    rw [← Array.foldl_toList, Array.toList_zip, r4]
  rw [hfold] at hyield
  generalize hT : (ps.zip us.toList).foldl (fun tmps (p : Nat × Value) => tmps.setIfInBounds p.1 p.2) r.tmps = T at hyield e1 e2
  let b : Frame := { (default : Frame) with fn := r.fn, kind := .normal, roundOf := some ex.block }
  let a : Act := { tmps := T, defers := [] }
  have hround : Frame.round ex.block r.fn T r.assign r.body .normal = b.atR a [.code r.assign, .beginRound, .code r.body] := by
    simp [Frame.round, Frame.atR, a, b]
  have H0 : Here P ρ (h.mark (.round L)) w (bindParams ps args tm) b a r.tmps.size := ⟨W.mark _, e1, e2, ⟨⟨ex, hL, rfl⟩, rfl⟩, rfl⟩
  have hc := co x (bindParams ps args tm) (h.mark (.round L)) ρ w b a [.beginRound, .code y] (c0 :: cs) r.tmps.size H0 r8
  unfold beginOut
  refine outCode_V hc ?_
  rintro z e' h' ⟨ρ', w', a', l1, l2, l3⟩
  cases z with
  | normal =>
    simp only
    have hL' := l1.sub _ _ hL
    split
    · rename_i pe2 tm2 ps2 x2 y2 hg2
      split
      · rename_i h2 hp
        obtain ⟨q, q1, q2, q3, q4, q5, q6, q7, q8, q9, q10⟩ := l2.rel.loop hL' hg2
        obtain ⟨s1, s2⟩ := put_sound l2.rel hL' hp (by rw [hg2]; simp) (l2.rel.noRow hL' q1 (by simp)) (x := .loop { q with state := .busy })
          ⟨{ q with state := .busy }, rfl, rfl, q3, q4, q5, q6, q7, q8, q9, q10⟩
        have hbegin := run_beginRound (P := P) q1 q2
        have H2 : Here P ρ' h2 { w' with heap := w'.heap.setIfInBounds ex.block (.loop { q with state := .busy }) } e' b a' r.tmps.size := ⟨s1.rel, l2.env, l2.size, by rw [s2]; exact l2.marks, rfl⟩
        have hc2 := co y e' h2 ρ' _ b a' [] (c0 :: cs) r.tmps.size H2 r9
        have pre : Steps P (lone (Frame.round ex.block r.fn T r.assign r.body .normal) (c0 :: cs) w) (lone (b.atR a' [.code y]) (c0 :: cs) { w' with heap := w'.heap.setIfInBounds ex.block (.loop { q with state := .busy }) }) := by
          rw [hround, r5, r6]
          exact Steps.trans l3 (.one (stepR_beginRound rfl hbegin))
        unfold roundOut
        refine outCode_V hc2 ?_
        rintro z e'' h'' ⟨ρ'', w'', a'', m1, m2, m3⟩
        try simp only
        have hL'' := m1.sub _ _ hL'
        split
        · rename_i st3 pe3 tm3 ps3 x3 y3 hg3
          split
          · rename_i h3 hp3
            obtain ⟨t, t1, t2, t3, t4, t5, t6, t7, t8, t9, t10⟩ := m2.rel.loop hL'' hg3
            obtain ⟨v1, v2⟩ := put_sound m2.rel hL'' hp3 (by rw [hg3]; simp) (m2.rel.noRow hL'' t1 (by simp)) (x := .loop { t with state := if (jumpOf z).isNone then .ready else .done, pending := jumpOf z })
              ⟨_, rfl, by cases z <;> rfl, rfl, t4, t5, t6, t7, t8, t9, t10⟩
            have hend := run_endRound (P := P) t1 (jumpOf z)
            refine ⟨ρ'', _, .bool (jumpOf z).isNone, (((l1.unmark.trans s1).trans m1).trans v1).mark _, by simp only [VRel], rfl, _, _, _, _, _, hyield, pre.trans ?_⟩
            cases z with
            | normal => exact Steps.trans m3 (.one (stepR_round_end rfl rfl hend))
            | exit id =>
              obtain ⟨k', m3, m4⟩ := m3
              exact m4.trans (.one (stepR_round_exit rfl rfl (by rw [m3]; rfl) hend))
            | goto l =>
              obtain ⟨k', m3, m4⟩ := m3
              exact m4.trans (.one (stepR_round_goto rfl rfl (by rw [m3]; rfl) hend))
            | ret =>
              obtain ⟨k', m4⟩ := m3
              exact m4.trans (.one (stepR_round_ret rfl rfl hend))
          · trivial
        · trivial
      · trivial
    · trivial
  | exit id => trivial
  | goto l => trivial
  | ret => trivial

theorem callFunc_enter {f : FuncId} {fn : Func} {c : Code} (hf : P.funcs[f]? = some fn) (hb : fn.body = some c) (hn : fn.name ≠ "runtime.NumGoroutine") (us : Array Value) : (callFunc f us).run P w = .ok (.enter f us) w := by
  simp [callFunc, hf, hb, hn]
theorem stepCallv_ok (S : Sane P) (so : SelfOk P self) (co : CodesOk P self) (f : AV) (args : List AV) (h : H) : CallvOk P f args h (stepCallv P self f args h) := by
  intro ρ w fu us c cs W hf hus
  unfold stepCallv
  split
  · rename_i g first cap
    simp only [VRel] at hf
    obtain ⟨x, y, rfl, hx, hy⟩ := hf
    rw [lapp_eq, lapp_eq]
    have hall : VRels ρ (first ++ (args ++ cap)) ((x ++ us) ++ y).toList := by
      simpa [List.append_assoc] using hx.append (hus.append hy)
    refine VMeets.mono ?_ (so.call g (first ++ (args ++ cap)) h ρ w ((x ++ us) ++ y) c cs W hall)
    rintro v h' ⟨ρ', w', u, p, hv, hds, gs⟩
    exact ⟨ρ', w', u, p, hv, hds, gs.congr (by simp [Deferred.ofValue, invoke])⟩
  · rename_i l fi ca
    simp only [VRel] at hf
    obtain ⟨ex, hL, rfl⟩ := hf
    split
    · rename_i st pe tm ps x y hg
      cases hb : Nat.beq (llen ps) (llen args) with
      | false => trivial
      | true =>
        have hn := nbeq.1 hb
        rw [llen_eq, llen_eq] at hn
        simp only [cond_true]
        refine VMeets.mono ?_ (round_ok S co W hL hus hg hn c cs)
        rintro v h' ⟨ρ', w', u, p, hv, hds, l, f', tmps, assign, body, hy, hs⟩
        exact ⟨ρ', w', u, p, hv, hds, .inr (.inr (.inr ⟨l, f', tmps, assign, body, w, by simpa [Deferred.ofValue, invoke] using hy, hs⟩))⟩
    · trivial
  · trivial
end
end Go.Proofs.YtfkpcifchgnmnaaGreatDoor.Ev
end

noncomputable section
namespace Go.Proofs.YtfkpcifchgnmnaaGreatDoor.Ev

/-! what a region whose order is open is made of -/

/-- the places of the numbers below m alone -/
def upto (σ : Emb) (m : Nat) : Emb := fun i => if i < m then σ i else none
theorem upto_lt {σ : Emb} {m i : Nat} (h : i < m) : upto σ m i = σ i := if_pos h
theorem upto_ge {σ : Emb} {m i : Nat} (h : m ≤ i) : upto σ m i = none := if_neg (by omega)
theorem upto_some {σ : Emb} {m i : Nat} {e : Ext} (h : upto σ m i = some e) : i < m ∧ σ i = some e := by
  unfold upto at h
  split at h
  · exact ⟨by assumption, h⟩
  · cases h
theorem upto_of {σ : Emb} {m i : Nat} {e : Ext} (h : i < m) (he : σ i = some e) : upto σ m i = some e := by rw [upto_lt h]; exact he
theorem upto_sub (σ : Emb) (m : Nat) : Sub (upto σ m) σ := fun _ _ h => (upto_some h).2
theorem upto_mono {σ : Emb} {m m' : Nat} (h : m ≤ m') : Sub (upto σ m) (upto σ m') := fun _ _ he =>
  let ⟨a, b⟩ := upto_some he
  upto_of (Nat.lt_of_lt_of_le a h) b
theorem Sub.upto {σ σ' : Emb} (s : Sub σ σ') (m : Nat) : Sub (upto σ m) (Ev.upto σ' m) := fun _ _ he =>
  let ⟨a, b⟩ := upto_some he
  upto_of a (s _ _ b)
theorem upto_upto {σ : Emb} {m m' : Nat} (h : m ≤ m') : upto (upto σ m') m = upto σ m := by
  funext i
  by_cases hi : i < m
  · rw [upto_lt hi, upto_lt hi, upto_lt (Nat.lt_of_lt_of_le hi h)]
  · rw [upto_ge (by omega), upto_ge (by omega)]

theorem VRels.imp {ρ ρ' : Emb} : ∀ {l : List AV} {us : List Value}, (∀ a ∈ l, ∀ u, VRel ρ a u → VRel ρ' a u) → VRels ρ l us → VRels ρ' l us
  | [], us, _, h => by simp only [VRels] at *; exact h
  | a :: l, us, hi, h => by
    simp only [VRels] at *
    obtain ⟨v, ws, e, p, q⟩ := h
    exact ⟨v, ws, e, hi a (by simp) v p, VRels.imp (fun b hb => hi b (by simp [hb])) q⟩
theorem below_rel {σ : Emb} {m : Nat} : ∀ (n : Nat) (v : AV) (u : Value), belowN n m v = true → VRel σ v u → VRel (upto σ m) v u
  | 0, v, u, h, _ => by change false = true at h; cases h
  | n + 1, v, u, h, hv => by
    have ih := fun v u => below_rel (σ := σ) (m := m) n v u
    cases v with
    | ptr id off =>
      have hb : id < m := nblt.1 h
      simp only [VRel] at *
      obtain ⟨e, he, r⟩ := hv
      exact ⟨e, upto_of hb he, r⟩
    | slice id off len cap =>
      have hb : id < m := nblt.1 h
      cases cap with
      | none => simp only [VRel] at *; obtain ⟨e, o, c, he, r⟩ := hv; exact ⟨e, o, c, upto_of hb he, r⟩
      | some c => simp only [VRel] at *; obtain ⟨e, o, he, r⟩ := hv; exact ⟨e, o, upto_of hb he, r⟩
    | map id =>
      have hb : id < m := nblt.1 h
      simp only [VRel] at *
      obtain ⟨e, he, r⟩ := hv
      exact ⟨e, upto_of hb he, r⟩
    | func f a b =>
      cases f with
      | func f =>
        have hb : cond (lall (belowN n m) a) (lall (belowN n m) b) false = true := h
        cases ha : lall (belowN n m) a with
        | false => rw [ha] at hb; simp at hb
        | true =>
          rw [ha] at hb
          simp only [cond_true] at hb
          simp only [VRel] at *
          obtain ⟨x, y, r, p, q⟩ := hv
          exact ⟨x, y, r, p.imp fun a' h' u => ih a' u ((lall_iff _ _).1 ha a' h'), q.imp fun a' h' u => ih a' u ((lall_iff _ _).1 hb a' h')⟩
      | yield l =>
        have hb : l < m := nblt.1 h
        simp only [VRel] at *
        obtain ⟨e, he, r⟩ := hv
        exact ⟨e, upto_of hb he, r⟩
    | iface t x =>
      have hb : belowN n m x = true := h
      simp only [VRel] at *
      obtain ⟨u, r, p⟩ := hv
      exact ⟨u, r, ih _ _ hb p⟩
    | agg l =>
      have hb : lall (belowN n m) l = true := h
      simp only [VRel] at *
      obtain ⟨vs, r, p, q⟩ := hv
      exact ⟨vs, r, p.imp fun a' h' u => ih a' u ((lall_iff _ _).1 hb a' h'), q⟩
    | tuple l =>
      have hb : lall (belowN n m) l = true := h
      simp only [VRel] at *
      obtain ⟨vs, r, p⟩ := hv
      exact ⟨vs, r, p.imp fun a' h' u => ih a' u ((lall_iff _ _).1 hb a' h')⟩
    | poison => trivial
    | bool b => simp only [VRel] at *; exact hv
    | int k i => simp only [VRel] at *; exact hv
    | str s => simp only [VRel] at *; exact hv
    | nilp => simp only [VRel] at *; exact hv
    | nils => simp only [VRel] at *; exact hv
    | nilm => simp only [VRel] at *; exact hv
    | nilf => simp only [VRel] at *; exact hv
    | nili => simp only [VRel] at *; exact hv

/-! temporaries that are not looked at -/
def maskE (keep : Nat → Bool) : Nat → Env → Env
  | 0, e => e
  | n + 1, e => if keep n then maskE keep n e else setT (maskE keep n e) n .poison
theorem maskE_get (keep : Nat → Bool) (e : Env) (t : Nat) : ∀ n, getT (maskE keep n e) t = if t < n ∧ keep t = false then .poison else getT e t
  | 0 => by simp [maskE]
  | n + 1 => by
    unfold maskE
    have ih := maskE_get keep e t n
    by_cases hk : keep n = true
    · rw [if_pos hk, ih]
      by_cases ht : t = n
      · subst ht; simp [hk]
      · have : t < n + 1 ↔ t < n := by omega
        simp only [this]
    · rw [if_neg hk, getT_setT, ih]
      by_cases ht : t = n
      · subst ht; rw [if_pos rfl, if_pos ⟨by omega, by simpa using hk⟩]
      · rw [if_neg ht]
        have : t < n + 1 ↔ t < n := by omega
        simp only [this]
theorem maskE_keep {keep : Nat → Bool} {e : Env} {t n : Nat} (h : keep t = true) : getT (maskE keep n e) t = getT e t := by rw [maskE_get]; simp [h]
theorem maskE_rel {ρ : Emb} {keep : Nat → Bool} {e : Env} {n : Nat} {tmps : Array Value} (h1 : ∀ t, keep t = true → VRel ρ (getT e t) (tmps.getD t Go.undef)) (h2 : ∀ t, n ≤ t → VRel ρ (getT e t) (tmps.getD t Go.undef)) :
    ERel ρ (maskE keep n e) tmps := by
  intro t
  rw [maskE_get]
  split
  · simp only [VRel]
  · rename_i hh
    by_cases hk : keep t = true
    · exact h1 t hk
    · refine h2 t ?_
      simp at hk
      simp [hk] at hh
      exact hh

theorem eval_congr {e e' : Env} {x : Operand} (h : ∀ t, x = .tmp t → getT e t = getT e' t) : eval e x = eval e' x := by
  cases x with
  | tmp t => exact h t rfl
  | _ => rfl
theorem evalL_congr {e e' : Env} {xs : Array Operand} (h : ∀ x ∈ xs, eval e x = eval e' x) : evalL e xs = evalL e' xs := by
  unfold evalL
  rw [lmap_eq, lmap_eq]
  exact List.map_congr_left fun x hx => h x (by simpa using hx)
theorem evalO_congr {e e' : Env} {x : Option Operand} (h : ∀ y, x = some y → eval e y = eval e' y) : evalO e x = evalO e' x := by
  cases x with
  | none => rfl
  | some y => exact congrArg some (h y rfl)
theorem pairs_congr {e e' : Env} {ps : Array (Nat × Operand)} (h : ∀ x ∈ (ps.toList.map (·.2)).toArray, eval e x = eval e' x) : pairs e ps = pairs e' ps := by
  unfold pairs
  rw [lmap_eq, lmap_eq]
  refine List.map_congr_left fun x hx => ?_
  rw [h x.2 (by simp; exact ⟨x.1, by simpa using hx⟩)]
theorem execA_congr {P : Program} {h : H} {e e' : Env} : ∀ (op : Op), (∀ x ∈ op.operands, eval e x = eval e' x) → execA op P e h = execA op P e' h
  | .move x, hx => by show xMove x e h = xMove x e' h; unfold xMove; rw [hx x (by simp [Op.operands])]
  | .assign x, hx => by show xMove x e h = xMove x e' h; unfold xMove; rw [hx x (by simp [Op.operands])]
  | .pick c a b, hx => by show xPick c a b e h = xPick c a b e' h; unfold xPick; rw [hx c (by simp [Op.operands]), hx a (by simp [Op.operands]), hx b (by simp [Op.operands])]
  | .alloc t, _ => rfl
  | .box t x, hx => by show xBox P t x e h = xBox P t x e' h; unfold xBox; rw [hx x (by simp [Op.operands])]
  | .build t ps, hx => by show xBuild P t ps e h = xBuild P t ps e' h; unfold xBuild; rw [pairs_congr (e := e) (e' := e') hx]
  | .buildSlice t n ps, hx => by show xBuildSlice P t n ps e h = xBuildSlice P t n ps e' h; unfold xBuildSlice; rw [pairs_congr (e := e) (e' := e') hx]
  | .insert t m k x, hx => by show xMapUpdate P t m k x e h = xMapUpdate P t m k x e' h; unfold xMapUpdate; rw [hx m (by simp [Op.operands]), hx k (by simp [Op.operands]), hx x (by simp [Op.operands])]
  | .load t a, hx => by show xLoad P t a e h = xLoad P t a e' h; unfold xLoad; rw [hx a (by simp [Op.operands])]
  | .store t a x, hx => by show xStore P t a x e h = xStore P t a x e' h; unfold xStore; rw [hx a (by simp [Op.operands]), hx x (by simp [Op.operands])]
  | .ready _, _ => rfl
  | .waits _, _ => rfl
  | .nilCheck x, hx => by show xNilCheck x e h = xNilCheck x e' h; unfold xNilCheck; rw [hx x (by simp [Op.operands])]
  | .binOp op t x y t', hx => by show xBin P op t x y t' e h = xBin P op t x y t' e' h; unfold xBin; rw [hx x (by simp [Op.operands]), hx y (by simp [Op.operands])]
  | .unOp op t x, hx => by show xUn op t x e h = xUn op t x e' h; unfold xUn; rw [hx x (by simp [Op.operands])]
  | .convert s d x, hx => by show xConv P s d x e h = xConv P s d x e' h; unfold xConv; rw [hx x (by simp [Op.operands])]
  | .sliceToArrayPointer _ _, _ => rfl
  | .makeInterface t x, hx => by show xMkIface P t x e h = xMkIface P t x e' h; unfold xMkIface; rw [hx x (by simp [Op.operands])]
  | .makeFunc fn a b, hx => by
    show xMkFunc fn a b e h = xMkFunc fn a b e' h
    unfold xMkFunc
    rw [evalL_congr (xs := a) (e := e) (e' := e') (fun x hm => hx x (by simp [Op.operands, hm])), evalL_congr (xs := b) (e := e) (e' := e') (fun x hm => hx x (by simp [Op.operands, hm]))]
  | .makeMap t r, hx => by
    show xMkMap P t r e h = xMkMap P t r e' h
    unfold xMkMap
    rw [evalO_congr (x := r) (e := e) (e' := e') (fun y hy => hx y (by simp [Op.operands, hy]))]
  | .makeChan _ _, _ => rfl
  | .makeSlice t l c, hx => by show xMkSlice P t l c e h = xMkSlice P t l c e' h; unfold xMkSlice; rw [hx l (by simp [Op.operands]), hx c (by simp [Op.operands])]
  | .slice t x lo hi mx, hx => by
    show xSlice P t x lo hi mx e h = xSlice P t x lo hi mx e' h
    unfold xSlice
    rw [hx x (by simp [Op.operands]), evalO_congr (x := lo) (e := e) (e' := e') (fun y hy => hx y (by simp [Op.operands, hy])), evalO_congr (x := hi) (e := e) (e' := e') (fun y hy => hx y (by simp [Op.operands, hy])),
      evalO_congr (x := mx) (e := e) (e' := e') (fun y hy => hx y (by simp [Op.operands, hy]))]
  | .fieldAddr t x i, hx => by show xFieldAddr P t x i e h = xFieldAddr P t x i e' h; unfold xFieldAddr; rw [hx x (by simp [Op.operands])]
  | .field t x i, hx => by show xField P t x i e h = xField P t x i e' h; unfold xField; rw [hx x (by simp [Op.operands])]
  | .indexAddr t x i, hx => by show xIndexAddr P t x i e h = xIndexAddr P t x i e' h; unfold xIndexAddr; rw [hx x (by simp [Op.operands]), hx i (by simp [Op.operands])]
  | .index t x i, hx => by show xIndex P t x i e h = xIndex P t x i e' h; unfold xIndex; rw [hx x (by simp [Op.operands]), hx i (by simp [Op.operands])]
  | .lookup t x k ok, hx => by show xLookup P t x k ok e h = xLookup P t x k ok e' h; unfold xLookup; rw [hx x (by simp [Op.operands]), hx k (by simp [Op.operands])]
  | .mapUpdate t m k x, hx => by show xMapUpdate P t m k x e h = xMapUpdate P t m k x e' h; unfold xMapUpdate; rw [hx m (by simp [Op.operands]), hx k (by simp [Op.operands]), hx x (by simp [Op.operands])]
  | .mapEntry t m k, hx => by show xMapEntry P t m k e h = xMapEntry P t m k e' h; unfold xMapEntry; rw [hx m (by simp [Op.operands]), hx k (by simp [Op.operands])]
  | .entryStore t m s x, hx => by show xEntryStore t m s x e h = xEntryStore t m s x e' h; unfold xEntryStore; rw [hx m (by simp [Op.operands]), hx s (by simp [Op.operands]), hx x (by simp [Op.operands])]
  | .range t x, hx => by show xRange P t x e h = xRange P t x e' h; unfold xRange; rw [hx x (by simp [Op.operands])]
  | .next it s, hx => by show xNext it s e h = xNext it s e' h; unfold xNext; rw [hx it (by simp [Op.operands])]
  | .entry it, hx => by show xEntry it e h = xEntry it e' h; unfold xEntry; rw [hx it (by simp [Op.operands])]
  | .typeAssert x xt t ok, hx => by show xTypeAssert P x xt t ok e h = xTypeAssert P x xt t ok e' h; unfold xTypeAssert; rw [hx x (by simp [Op.operands])]
  | .extract x i, hx => by show xExtract x i e h = xExtract x i e' h; unfold xExtract; rw [hx x (by simp [Op.operands])]
  | .call c, hx => by
    have ha : evalL e c.args = evalL e' c.args := evalL_congr fun x hm => hx x (by simp [Op.operands, Call.operands, hm])
    show xCall P c e h = xCall P c e' h
    unfold xCall
    rw [ha]
    cases hc : c.callee with
    | builtin b => rfl
    | invoke r name => simp only; rw [hx r (by simp [Op.operands, Call.operands, hc])]
    | value f => simp only; rw [hx f (by simp [Op.operands, Call.operands, hc])]
  | .go _, _ => rfl
  | .defer _, _ => rfl
  | .panic _, _ => rfl
  | .send _ _, _ => rfl
  | .recv _ _ _, _ => rfl
  | .select _ _, _ => rfl

/-! which operation must come behind which -/
section before
variable (ops : Array Oper)
def beforeStep (acc : Array Nat) (o : Oper) : Array Nat := acc.push (o.after.foldl (fun s e => if Region.binds .any e then s ||| 2 ^ e.on ||| acc.getD e.on 0 else s) 0)
theorem before_eq : Region.before ops = ops.toList.foldl beforeStep #[] := by
  unfold Region.before
  rw [← Array.foldl_toList]
  rfl
theorem beforeL_size (l : List Oper) (acc : Array Nat) : (l.foldl beforeStep acc).size = acc.size + l.length := by
  induction l generalizing acc with
  | nil => simp
  | cons o l ih => rw [List.foldl_cons, ih]; simp [beforeStep]; omega
theorem beforeL_get (l : List Oper) (acc : Array Nat) (i : Nat) (hi : i < acc.size) : (l.foldl beforeStep acc)[i]? = acc[i]? := by
  induction l generalizing acc with
  | nil => rfl
  | cons o l ih =>
    rw [List.foldl_cons, ih _ (by simp [beforeStep]; omega)]
    unfold beforeStep
    rw [Array.getElem?_push, if_neg (by omega)]
theorem foldE_bit (acc : Array Nat) (j : Nat) : ∀ (l : List Edge) (s : Nat), (l.foldl (fun s e => if Region.binds .any e then s ||| 2 ^ e.on ||| acc.getD e.on 0 else s) s).testBit j = true →
    s.testBit j = true ∨ ∃ e ∈ l, Region.binds .any e = true ∧ (e.on = j ∨ (acc.getD e.on 0).testBit j = true)
  | [], s, h => .inl h
  | e :: l, s, h => by
    rw [List.foldl_cons] at h
    rcases foldE_bit acc j l _ h with h1 | ⟨e', he', r⟩
    · by_cases hb : Region.binds .any e = true
      · rw [if_pos hb, Nat.testBit_or, Nat.testBit_or, Bool.or_eq_true, Bool.or_eq_true] at h1
        rcases h1 with (h1 | h1) | h1
        · exact .inl h1
        · refine .inr ⟨e, by simp, hb, .inl ?_⟩
          rw [Nat.testBit_two_pow] at h1
          simpa using h1
        · exact .inr ⟨e, by simp, hb, .inr h1⟩
      · rw [if_neg hb] at h1; exact .inl h1
    · exact .inr ⟨e', by simp [he'], r⟩
theorem before_bit {i j : Nat} (h : ((Region.before ops).getD i 0).testBit j = true) :
    ∃ o e, ops[i]? = some o ∧ e ∈ o.after ∧ Region.binds .any e = true ∧ (e.on = j ∨ (e.on < i ∧ ((Region.before ops).getD e.on 0).testBit j = true)) := by
  have hsize : (Region.before ops).size = ops.size := by rw [before_eq, beforeL_size]; simp
  have hi : i < ops.size := by
    rcases Nat.lt_or_ge i ops.size with h1 | h1
    · exact h1
    · have : (Region.before ops).getD i 0 = 0 := by simp [Array.getD_eq_getD_getElem?, Array.getElem?_eq_none (show (Region.before ops).size ≤ i by omega)]
      rw [this] at h; simp at h
  obtain ⟨o, ho⟩ : ∃ o, ops[i]? = some o := ⟨ops[i], Array.getElem?_eq_getElem hi⟩
  have hsplit : ops.toList = ops.toList.take i ++ o :: ops.toList.drop (i + 1) := by
    have : ops.toList.drop i = o :: ops.toList.drop (i + 1) := by
      rw [List.drop_eq_getElem_cons (by simpa using hi)]
      have h2 := (Array.getElem?_eq_some_iff.1 ho).2
      simp [h2]
    rw [← this, List.take_append_drop]
  have hlen : (ops.toList.take i).length = i := by simp; omega
  have hB : ∀ k, k < i → (Region.before ops)[k]? = ((ops.toList.take i).foldl beforeStep #[])[k]? := by
    intro k hk
    rw [before_eq, hsplit, List.foldl_append, beforeL_get _ _ _ (by rw [beforeL_size, hlen]; simpa using hk)]
    simp [hlen]
  have hBi : (Region.before ops)[i]? = some (o.after.foldl (fun s e => if Region.binds .any e then s ||| 2 ^ e.on ||| ((ops.toList.take i).foldl beforeStep #[]).getD e.on 0 else s) 0) := by
    have hs : ((ops.toList.take i).foldl beforeStep #[]).size = i := by rw [beforeL_size, hlen]; simp
    rw [before_eq]
    conv => lhs; rw [hsplit, List.foldl_append, List.foldl_cons]
    rw [beforeL_get _ _ _ (by simp [beforeStep, hs])]
    generalize (ops.toList.take i).foldl beforeStep #[] = A at hs
    unfold beforeStep
    rw [Array.getElem?_push, if_pos hs.symm]
  rw [Array.getD_eq_getD_getElem?, hBi, Option.getD_some, ← Array.foldl_toList] at h
  rcases foldE_bit _ j _ _ h with h1 | ⟨e, he, hb, h1⟩
  · simp at h1
  · refine ⟨o, e, ho, by simpa using he, hb, h1.imp id fun h2 => ?_⟩
    have hlt : e.on < i := by
      rcases Nat.lt_or_ge e.on i with h3 | h3
      · exact h3
      · have : ((ops.toList.take i).foldl beforeStep #[]).getD e.on 0 = 0 := by
          rw [Array.getD_eq_getD_getElem?, Array.getElem?_eq_none (by rw [beforeL_size, hlen]; simpa using h3)]
          rfl
        rw [this] at h2; simp at h2
    refine ⟨hlt, ?_⟩
    rw [Array.getD_eq_getD_getElem?, hB _ hlt, ← Array.getD_eq_getD_getElem?]
    exact h2
theorem bitOf_iff {i j : Nat} : bitOf (Region.before ops).toList i j = true ↔ ((Region.before ops).getD i 0).testBit j = true := by
  unfold bitOf
  rw [nbeq, lget_eq]
  have h1 : (Region.before ops).toList.getD i 0 = (Region.before ops).getD i 0 := by simp [List.getD, Array.getD_eq_getD_getElem?]
  rw [h1, Nat.testBit_eq_decide_div_mod_eq]
  simp only [decide_eq_true_eq]
  exact Iff.rfl
end before

/-! what has been carried out -/
def Has (listed : Array Bool) (i : Nat) : Prop := listed.getD i false = true
theorem has_set {listed : Array Bool} {i : Nat} (hi : i < listed.size) (j : Nat) : Has (listed.setIfInBounds i true) j ↔ j = i ∨ Has listed j := by
  unfold Has
  by_cases h : j = i
  · subst h; simp [hi]
  · rw [getD_set_ne false (Ne.symm h)]; simp [h]
/-- whatever must come ahead has been carried out -/
def Closed (ops : Array Oper) (listed : Array Bool) : Prop := ∀ (i : Nat) (o : Oper), ops[i]? = some o → Has listed i → ∀ e ∈ o.after, Region.binds .any e = true → Has listed e.on
theorem Closed.bit {ops : Array Oper} {listed : Array Bool} (c : Closed ops listed) : ∀ (n i j : Nat), i < n → Has listed i → ((Region.before ops).getD i 0).testBit j = true → Has listed j
  | 0, _, _, h, _, _ => by omega
  | n + 1, i, j, h, hi, hb => by
    obtain ⟨o, e, ho, he, hbi, r⟩ := before_bit ops hb
    have h1 := c i o ho hi e he hbi
    rcases r with rfl | ⟨h2, h3⟩
    · exact h1
    · exact c.bit n e.on j (by omega) h1 h3
theorem ready_bit {ops : Array Oper} {listed : Array Bool} (c : Closed ops listed) {i : Nat} (hr : i ∈ Region.ready .any ops listed) {j : Nat} (hb : ((Region.before ops).getD i 0).testBit j = true) : Has listed j := by
  obtain ⟨_, o, ho, hall⟩ := mem_ready.1 hr
  obtain ⟨o', e, ho', he, hbi, r⟩ := before_bit ops hb
  rw [ho] at ho'; injection ho' with ho'; subst ho'
  have h1 := hall e he hbi
  rcases r with rfl | ⟨h2, h3⟩
  · exact h1
  · exact c.bit (e.on + 1) e.on j (by omega) h1 h3
theorem Closed.set {ops : Array Oper} {listed : Array Bool} (c : Closed ops listed) (hs : listed.size = ops.size) {i : Nat} (hr : i ∈ Region.ready .any ops listed) : Closed ops (listed.setIfInBounds i true) := by
  obtain ⟨_, o, ho, hall⟩ := mem_ready.1 hr
  have hi : i < listed.size := by rw [hs]; exact (Array.getElem?_eq_some_iff.1 ho).1
  intro j o' ho' hj e he hb
  rw [has_set hi] at hj ⊢
  rcases hj with rfl | hj
  · rw [ho] at ho'; injection ho' with ho'; subst ho'
    exact .inr (hall e he hb)
  · exact .inr (c j o' ho' hj e he hb)

/-! temporaries -/
def opNames (o : Oper) : List Tmp := o.dst.toList ++ o.op.operands.toList.filterMap fun | .tmp t => some t | _ => none
theorem modify_getD {w : Array (List (Tmp × Nat))} {k j : Nat} {x : Tmp × Nat} (hk : k < w.size) : (w.modify k (x :: ·)).getD j [] = if j = k then x :: w.getD j [] else w.getD j [] := by
  rw [Array.getD_eq_getD_getElem?, Array.getD_eq_getD_getElem?, Array.getElem?_modify]
  by_cases h : j = k
  · subst h
    simp [hk]
  · have : k ≠ j := fun hh => h hh.symm
    simp [h, this]
theorem writers_mem (m : Nat) (hm : 0 < m) : ∀ (l : List (Oper × Nat)) (w : Array (List (Tmp × Nat))), w.size = m → ∀ (d : Tmp) (i : Nat),
    ((∃ o, (o, i) ∈ l ∧ o.dst = some d) ∨ (d, i) ∈ w.getD (d % m) []) →
    (d, i) ∈ (l.foldl (init := w) fun w (o, i) => match o.dst with
      | some d => w.modify (d % m) ((d, i) :: ·)
      | none => w).getD (d % m) []
  | [], w, hw, d, i, h => by
    rcases h with ⟨o, ho, _⟩ | h
    · simp at ho
    · exact h
  | (o, k) :: l, w, hw, d, i, h => by
    rw [List.foldl_cons]
    refine writers_mem m hm l _ ?_ d i ?_
    · cases hd : o.dst <;> simp [hw, hd]
    · rcases h with ⟨o', ho', hd⟩ | h
      · rcases List.mem_cons.1 ho' with h1 | h1
        · injection h1 with h1 h2
          subst h1; subst h2
          right
          simp only [hd]
          rw [modify_getD (by rw [hw]; exact Nat.mod_lt _ hm), if_pos rfl]
          simp
        · exact .inl ⟨o', h1, hd⟩
      · right
        cases hd : o.dst with
        | none => simpa only [hd] using h
        | some d' =>
          simp only [hd]
          rw [modify_getD (by rw [hw]; exact Nat.mod_lt _ hm)]
          split
          · exact List.mem_cons_of_mem _ h
          · exact h
/-- who writes what another one names stands in order with it -/
theorem temporaries_spec {ops : Array Oper} (h : Region.temporariesOk ops (Region.before ops) = true) {i j : Nat} {oi oj : Oper} (hi : ops[i]? = some oi) (hj : ops[j]? = some oj) {t : Tmp} (hd : oi.dst = some t) (hn : t ∈ opNames oj) (hne : i ≠ j) :
    ((Region.before ops).getD (max i j) 0).testBit (min i j) = true := by
  unfold Region.temporariesOk at h
  simp only [List.all_eq_true] at h
  have hj' : (oj, j) ∈ ops.toList.zipIdx := by rw [List.mem_zipIdx_iff_getElem?]; simpa using hj
  have hi' : (oi, i) ∈ ops.toList.zipIdx := by rw [List.mem_zipIdx_iff_getElem?]; simpa using hi
  have hm : 0 < ops.size := by have := (Array.getElem?_eq_some_iff.1 hi).1; omega
  have h1 := h (oj, j) hj' t hn (t, i) (writers_mem ops.size hm _ _ (by simp) t i (.inl ⟨oi, hi', hd⟩))
  simpa [hne] using h1
end Go.Proofs.YtfkpcifchgnmnaaGreatDoor.Ev
end

noncomputable section
namespace Go.Proofs.YtfkpcifchgnmnaaGreatDoor.Ev
section
variable {P : Program} {ρ0 ρ : Emb} {h0 h : H} {w0 w : World}

/-- one more object, which lies somewhere already, or nowhere -/
theorem Post.addAt (p : Post P ρ0 h0 w0 ρ h w) (o : AObj) (pl : Option Ext)
    (hpl : ∀ e, pl = some e → w0.heap.size ≤ e.block ∧ e.block < w.heap.size ∧ ¬ Foot ρ h e.block ∧ PeerIn ρ o ∧ ORel P ρ e w.heap[e.block]? o) :
    Post P ρ0 h0 w0 (fun i => if i = h.next then pl else ρ i) (h.add o) w := by
  have r := p.rel
  have hsub : Sub ρ (fun i => if i = h.next then pl else ρ i) := by
    intro i e he
    have := (r.dom i e he).2.1
    try simp only []
    rw [if_neg (by omega)]; exact he
  refine ⟨p.sub.trans hsub, ?_, ⟨?_, ?_, ?_, ?_, ?_, ?_, fun i hi => by rw [H.get_add, if_neg (by rw [H.next_add] at hi; omega)]; exact r.above i (by rw [H.next_add] at hi; omega)⟩, p.keep, ?_, by rw [H.lo_add]; exact p.lo, ?_, ?_, ?_⟩
  · intro i e he
    try simp only [] at he
    split at he
    · have := p.next; exact .inr (by omega)
    · exact p.fresh i e he
  · intro i e he
    try simp only [] at he
    rw [H.next_add]
    split at he
    · subst i; exact ⟨r.pos, by omega, (hpl e he).2.1⟩
    · have := r.dom i e he; omega
  · intro i e he
    try simp only [] at he
    rw [H.get_add]
    split at he
    · rename_i hi
      rw [if_pos hi]
      exact (hpl e he).2.2.2.2.mono hsub
    · rename_i hi
      rw [if_neg hi]
      exact (r.obj i e he).mono hsub
  · intro i j ei ej hi hj hne hb
    try simp only [] at hi hj
    rw [H.get_add, H.get_add]
    by_cases h1 : i = h.next
    · rw [if_pos h1] at hi
      have h2 : j ≠ h.next := by omega
      rw [if_neg h2] at hj
      rw [if_neg h2]
      right; left
      refine Classical.byContradiction fun hl => (hpl ei hi).2.2.1 ⟨j, ej, hj, hl, hb.symm⟩
    · rw [if_neg h1] at hi
      rw [if_neg h1]
      by_cases h2 : j = h.next
      · rw [if_pos h2] at hj
        left
        refine Classical.byContradiction fun hl => (hpl ej hj).2.2.1 ⟨i, ei, hi, hl, hb⟩
      · rw [if_neg h2] at hj
        rw [if_neg h2]
        rcases r.sep i j ei ej hi hj hne hb with a | a | a
        · exact .inl a
        · exact .inr (.inl a)
        · obtain ⟨cs, e1, s1, cs', e2, s2, g1, g2⟩ := a
          exact .inr (.inr ⟨cs, e1, s1, cs', e2, s2, by rw [H.get_add, if_neg h1]; exact g1, by rw [H.get_add, if_neg h2]; exact g2⟩)
  · rw [H.lo_add, H.next_add]; have := r.low; omega
  · rw [H.next_add]; omega
  · intro i e he
    try simp only [] at he
    rw [H.get_add]
    split at he
    · rename_i hi; rw [if_pos hi]; exact (hpl e he).2.2.2.1.mono hsub
    · rename_i hi; rw [if_neg hi]; exact (r.peer i e he).mono hsub
  · intro b hb
    obtain ⟨i, e, he, hg, heb⟩ := hb
    try simp only [] at he
    rw [H.get_add] at hg
    split at he
    · exact .inr (by rw [← heb]; exact (hpl e he).1)
    · rename_i hi; rw [if_neg hi] at hg; exact p.foot b ⟨i, e, he, hg, heb⟩
  · intro i hi
    have h1 := r.low
    rw [p.lo] at h1
    rw [H.get_add, if_neg (by omega)]
    exact p.old i hi
  · rw [H.next_add]; have := p.next; omega
  · intro i hi hr
    have := p.next
    rw [H.get_add, if_neg (by omega)]
    exact p.off i hi hr

theorem push_get (w : World) (x : Obj) {b : Nat} (hb : b < w.heap.size) : ({ w with heap := w.heap.push x } : World).heap[b]? = w.heap[b]? := by
  simp only [Array.getElem?_push]
  rw [if_neg (by omega)]
theorem Keeps.push {F : Nat → Prop} (k : Keeps F w0 w) (x : Obj) : Keeps F w0 { w with heap := w.heap.push x } :=
  ⟨by have := k.size; simp; omega, fun b hb hf => by rw [push_get w x (Nat.lt_of_lt_of_le hb k.size)]; exact k.same b hb hf, k.tape, k.os, k.output⟩
/-- one more block, that nothing knows of -/
theorem Post.push (p : Post P ρ0 h0 w0 ρ h w) (x : Obj) : Post P ρ0 h0 w0 ρ h { w with heap := w.heap.push x } := by
  have r := p.rel
  refine ⟨p.sub, p.fresh, ⟨fun i e he => ?_, fun i e he => ?_, r.sep, r.low, r.pos, r.peer, r.above⟩, p.keep.push x, p.foot, p.lo, p.old, p.next, p.off⟩
  · have := r.dom i e he; simp; omega
  · rw [push_get w x (r.dom i e he).2.2]; exact r.obj i e he
/-- an object that lay nowhere comes to lie in a new block -/
theorem Post.place (p : Post P ρ0 h0 w0 ρ h w) {id : Nat} (h1 : h0.next ≤ id) (h2 : id < h.next) (h3 : 1 ≤ id) (hn : ρ id = none) (x : Obj) (cap sz : Nat) (hpeer : PeerIn ρ (h.get id))
    (ho : ∀ ρ', Sub ρ ρ' → ORel P ρ' ⟨w.heap.size, 0, cap, sz⟩ (some x) (h.get id)) :
    Post P ρ0 h0 w0 (fun i => if i = id then some ⟨w.heap.size, 0, cap, sz⟩ else ρ i) h { w with heap := w.heap.push x } := by
  have r := p.rel
  have hsub : Sub ρ (fun i => if i = id then some ⟨w.heap.size, 0, cap, sz⟩ else ρ i) := by
    intro i e he
    have : i ≠ id := fun hh => by rw [hh, hn] at he; cases he
    try simp only []
    rw [if_neg this]; exact he
  refine ⟨p.sub.trans hsub, ?_, ⟨?_, ?_, ?_, r.low, r.pos, ?_, r.above⟩, p.keep.push x, ?_, p.lo, p.old, p.next, p.off⟩
  · intro i e he
    try simp only [] at he
    split at he
    · exact .inr (by omega)
    · exact p.fresh i e he
  · intro i e he
    try simp only [] at he
    split at he
    · injection he with he; subst he; subst i; exact ⟨h3, h2, by simp⟩
    · have := r.dom i e he; simp; omega
  · intro i e he
    try simp only [] at he
    split at he
    · rename_i hi
      injection he with he; subst he; subst hi
      have : (w.heap.push x)[w.heap.size]? = some x := by simp
      simp only [this]
      exact ho _ hsub
    · rw [push_get w x (r.dom i e he).2.2]; exact (r.obj i e he).mono hsub
  · intro i j ei ej hi hj hne hb
    try simp only [] at hi hj
    by_cases e1 : i = id
    · rw [if_pos e1] at hi
      injection hi with hi; subst hi
      rw [if_neg (by omega)] at hj
      have := (r.dom j ej hj).2.2
      try simp only [] at hb; omega
    · rw [if_neg e1] at hi
      by_cases e2 : j = id
      · rw [if_pos e2] at hj
        injection hj with hj; subst hj
        have := (r.dom i ei hi).2.2
        try simp only [] at hb; omega
      · rw [if_neg e2] at hj
        exact r.sep i j ei ej hi hj hne hb
  · intro i e he
    try simp only [] at he
    split at he
    · rename_i hi; subst hi; exact hpeer.mono hsub
    · exact (r.peer i e he).mono hsub
  · intro b hb
    obtain ⟨i, e, he, hg, heb⟩ := hb
    try simp only [] at he
    split at he
    · injection he with he; subst he
      have := p.keep.size
      exact .inr (by simp only [] at heb; omega)
    · exact p.foot b ⟨i, e, he, hg, heb⟩
end

/-! a region, in the order of the text -/
inductive Kd where
  | off
  | val (v : AV)
  | read (v : AV)
  | new (x : AObj) (k : NewK)
  | eff (v : AV) (h : H)
section
variable (P : Program) (self : Self) (ops : Array Oper)
def TStep (o : Oper) (e : Env) (h : H) (k : Kd) (e' : Env) (h' : H) : Prop :=
  guardOk ops o = true ∧ match k with
  | .off => wantedA ops e o = some false ∧ e' = setO e o.dst undef ∧ h' = h
  | .val v => wantedA ops e o = some true ∧ execA o.op P e h = .val v ∧ e' = setO e o.dst v ∧ h' = h
  | .read v => wantedA ops e o = some true ∧ execA o.op P e h = .read v ∧ e' = setO e o.dst v ∧ h' = h
  | .new x k => wantedA ops e o = some true ∧ execA o.op P e h = .new x k ∧ e' = setO e o.dst (newVal k h.next) ∧ h' = h.add x
  | .eff v h1 => wantedA ops e o = some true ∧
      (execA o.op P e h = .eff v h1 ∨ (∃ f as, execA o.op P e h = .call f as ∧ self (.call f as h) = .val v h1) ∨ (∃ f as, execA o.op P e h = .callv f as ∧ self (.callv f as h) = .val v h1)) ∧
      e' = setO e o.dst v ∧ h' = h1
structure TextRun where
  es : Nat → Env
  hs : Nat → H
  ks : Nat → Kd
def Ran (masks : List Nat) (i : Nat) (xs : List Eff) (rs : List Rdg) (e : Env) (h : H) (out : Out) : Prop :=
  out = .fail ∨ ∃ (tr : TextRun) (XS : List Eff) (RS : List Rdg), tr.es i = e ∧ tr.hs i = h ∧
    (∀ j o, i ≤ j → ops[j]? = some o → TStep P self ops o (tr.es j) (tr.hs j) (tr.ks j) (tr.es (j + 1)) (tr.hs (j + 1))) ∧
    (∀ x ∈ xs, x ∈ XS) ∧ (∀ r ∈ rs, r ∈ RS) ∧
    (∀ j v h1, i ≤ j → j < ops.size → tr.ks j = .eff v h1 → ⟨j, tr.hs j, h1⟩ ∈ XS) ∧
    (∀ j o v, i ≤ j → ops[j]? = some o → tr.ks j = .read v → ⟨j, o.op, tr.es j, v, (tr.hs j).next⟩ ∈ RS) ∧
    drawOk P masks XS RS = true ∧ out = .code .normal (tr.es ops.size) (tr.hs ops.size)
variable {P self ops}
theorem Ran.cons {masks : List Nat} {i : Nat} {xs xs' : List Eff} {rs rs' : List Rdg} {e e' : Env} {h h' : H} {out : Out} {o : Oper} (ho : ops[i]? = some o) (k : Kd) (st : TStep P self ops o e h k e' h')
    (hx : ∀ x ∈ xs, x ∈ xs') (hr : ∀ r ∈ rs, r ∈ rs') (hkx : ∀ v h1, k = .eff v h1 → ⟨i, h, h1⟩ ∈ xs') (hkr : ∀ v, k = .read v → ⟨i, o.op, e, v, h.next⟩ ∈ rs')
    (r : Ran P self ops masks (i + 1) xs' rs' e' h' out) : Ran P self ops masks i xs rs e h out := by
  rcases r with r | ⟨tr, XS, RS, r1, r2, r3, r4, r5, r6, r7, r8, r9⟩
  · exact .inl r
  have hi : i < ops.size := (Array.getElem?_eq_some_iff.1 ho).1
  have ne : ∀ j, i + 1 ≤ j → j ≠ i := fun j h => by omega
  refine .inr ⟨⟨fun j => if j = i then e else tr.es j, fun j => if j = i then h else tr.hs j, fun j => if j = i then k else tr.ks j⟩, XS, RS, if_pos rfl, if_pos rfl, ?_, fun x hxm => r4 x (hx x hxm), fun x hxm => r5 x (hr x hxm), ?_, ?_, r8, ?_⟩
  · intro j o' hj ho'
    try simp only []
    rw [if_neg (show j + 1 ≠ i by omega), if_neg (show j + 1 ≠ i by omega)]
    by_cases hji : j = i
    · subst hji
      rw [ho] at ho'; injection ho' with ho'; subst ho'
      rw [if_pos rfl, if_pos rfl, if_pos rfl, r1, r2]
      exact st
    · rw [if_neg hji, if_neg hji, if_neg hji]
      exact r3 j o' (by omega) ho'
  · intro j v h1 hj hjs hk
    try simp only [] at hk ⊢
    by_cases hji : j = i
    · subst hji
      rw [if_pos rfl] at hk
      rw [if_pos rfl]
      exact r4 _ (hkx v h1 hk)
    · rw [if_neg hji] at hk
      rw [if_neg hji]
      exact r6 j v h1 (by omega) hjs hk
  · intro j o' v hj ho' hk
    try simp only [] at hk ⊢
    by_cases hji : j = i
    · subst hji
      rw [ho] at ho'; injection ho' with ho'; subst ho'
      rw [if_pos rfl] at hk
      rw [if_pos rfl, if_pos rfl]
      exact r5 _ (hkr v hk)
    · rw [if_neg hji] at hk
      rw [if_neg hji, if_neg hji]
      exact r7 j o' v (by omega) ho' hk
  · simp only []
    rw [if_neg (by omega), if_neg (by omega)]
    exact r9
theorem opsD_ran (masks : List Nat) : ∀ (l : List Oper) (i : Nat), ops.toList.drop i = l → i ≤ ops.size → ∀ xs rs e h, Ran P self ops masks i xs rs e h (opsD P masks ops l i xs rs self e h)
  | [], i, hi, hle, xs, rs, e, h => by
    have hge : ops.size ≤ i := by
      have := congrArg List.length hi
      simp at this; omega
    have : i = ops.size := by omega
    subst this
    show Ran P self ops masks ops.size xs rs e h (Bool.rec (motive := fun _ => Out) .fail (.code .normal e h) (drawOk P masks xs rs))
    cases hd : drawOk P masks xs rs with
    | false => exact .inl rfl
    | true =>
      refine .inr ⟨⟨fun _ => e, fun _ => h, fun _ => .off⟩, xs, rs, rfl, rfl, fun j o hj ho => ?_, fun _ h => h, fun _ h => h, fun j v h1 hj hjs => ?_, fun j o v hj ho => ?_, hd, rfl⟩
      · have := (Array.getElem?_eq_some_iff.1 ho).1; omega
      · omega
      · have := (Array.getElem?_eq_some_iff.1 ho).1; omega
  | o :: l, i, hi, hle, xs, rs, e, h => by
    have hlt : i < ops.size := by
      have := congrArg List.length hi
      simp at this; omega
    have ho : ops[i]? = some o := by
      have := congrArg (fun l => l[0]?) hi
      simpa using this
    have hrest : ops.toList.drop (i + 1) = l := by
      have := congrArg (List.drop 1) hi
      simpa [Nat.add_comm] using this
    have ih := fun xs rs e h => opsD_ran masks l (i + 1) hrest hlt xs rs e h
    show Ran P self ops masks i xs rs e h (Option.rec (motive := fun _ => Out) .fail (fun b => Bool.rec (motive := fun _ => Out) (opsD P masks ops l (i + 1) xs rs self (setO e o.dst undef) h) (dOut (execA o.op P e h) o.op o.dst (opsD P masks ops l) i xs rs self e h) b) (cond (guardOk ops o) (wantedA ops e o) none))
    cases hg : guardOk ops o with
    | false => exact .inl rfl
    | true =>
      cases hw : wantedA ops e o with
      | none => exact .inl rfl
      | some t =>
        cases t with
        | false => exact Ran.cons ho .off ⟨hg, hw, rfl, rfl⟩ (fun _ h => h) (fun _ h => h) (fun _ _ hh => by cases hh) (fun _ hh => by cases hh) (ih xs rs (setO e o.dst undef) h)
        | true =>
          show Ran P self ops masks i xs rs e h (dOut (execA o.op P e h) o.op o.dst (opsD P masks ops l) i xs rs self e h)
          cases hx : execA o.op P e h with
          | fail => exact .inl rfl
          | val v => exact Ran.cons ho (.val v) ⟨hg, hw, hx, rfl, rfl⟩ (fun _ h => h) (fun _ h => h) (fun _ _ hh => by cases hh) (fun _ hh => by cases hh) (ih xs rs _ h)
          | read v => exact Ran.cons ho (.read v) ⟨hg, hw, hx, rfl, rfl⟩ (fun _ h => h) (fun _ h => List.mem_cons_of_mem _ h) (fun _ _ hh => by cases hh) (fun _ hh => by injection hh with hh; subst hh; exact List.mem_cons_self) (ih xs (⟨i, o.op, e, v, h.next⟩ :: rs) _ h)
          | new x m => exact Ran.cons ho (.new x m) ⟨hg, hw, hx, rfl, rfl⟩ (fun _ h => h) (fun _ h => h) (fun _ _ hh => by cases hh) (fun _ hh => by cases hh) (ih xs rs _ _)
          | eff v h1 => exact Ran.cons ho (.eff v h1) ⟨hg, hw, .inl hx, rfl, rfl⟩ (fun _ h => List.mem_cons_of_mem _ h) (fun _ h => h) (fun _ _ hh => by injection hh with hh1 hh2; subst hh2; exact List.mem_cons_self) (fun _ hh => by cases hh) (ih (⟨i, h, h1⟩ :: xs) rs _ h1)
          | choice v h1 r => exact .inl rfl
          | call f as =>
            show Ran P self ops masks i xs rs e h (outVal1 (fun v h1 => opsD P masks ops l (i + 1) (⟨i, h, h1⟩ :: xs) rs self (setO e o.dst v) h1) (self (.call f as h)))
            cases hs : self (.call f as h) with
            | fail => exact .inl rfl
            | code x e' h' => exact .inl rfl
            | fork a b => exact .inl rfl
            | val v h1 => exact Ran.cons ho (.eff v h1) ⟨hg, hw, .inr (.inl ⟨f, as, hx, hs⟩), rfl, rfl⟩ (fun _ h => List.mem_cons_of_mem _ h) (fun _ h => h) (fun _ _ hh => by injection hh with hh1 hh2; subst hh2; exact List.mem_cons_self) (fun _ hh => by cases hh) (ih (⟨i, h, h1⟩ :: xs) rs _ h1)
          | callv f as =>
            show Ran P self ops masks i xs rs e h (outVal1 (fun v h1 => opsD P masks ops l (i + 1) (⟨i, h, h1⟩ :: xs) rs self (setO e o.dst v) h1) (self (.callv f as h)))
            cases hs : self (.callv f as h) with
            | fail => exact .inl rfl
            | code x e' h' => exact .inl rfl
            | fork a b => exact .inl rfl
            | val v h1 => exact Ran.cons ho (.eff v h1) ⟨hg, hw, .inr (.inr ⟨f, as, hx, hs⟩), rfl, rfl⟩ (fun _ h => List.mem_cons_of_mem _ h) (fun _ h => h) (fun _ _ hh => by injection hh with hh1 hh2; subst hh2; exact List.mem_cons_self) (fun _ hh => by cases hh) (ih (⟨i, h, h1⟩ :: xs) rs _ h1)
end
end Go.Proofs.YtfkpcifchgnmnaaGreatDoor.Ev
end

noncomputable section
namespace Go.Proofs.YtfkpcifchgnmnaaGreatDoor.Ev
section
variable {P : Program} {sf : Self} {ops : Array Oper} {n : Nat} {tr : TextRun} {XS : List Eff} {RS : List Rdg} {ρ0 : Emb} {w0 w : World} {a : Act} {listed : Array Bool} {σ : Emb} {q i : Nat} {o : Oper}

theorem getT_setO (e : Env) (d : Option Nat) (v : AV) (t : Nat) : getT (setO e d v) t = if d = some t then v else getT e t := by
  cases d with
  | none => simp [setO]
  | some d =>
    show getT (setT e d v) t = _
    rw [getT_setT]
    by_cases h : t = d
    · subst h; simp
    · have : d ≠ t := fun hh => h hh.symm
      simp [h, this]
theorem TStep.env {e e' : Env} {h h' : H} {k : Kd} (st : TStep P sf ops o e h k e' h') : ∃ v, e' = setO e o.dst v := by
  obtain ⟨_, st⟩ := st
  cases k with
  | off => exact ⟨_, st.2.1⟩
  | val v => exact ⟨_, st.2.2.1⟩
  | read v => exact ⟨_, st.2.2.1⟩
  | new x k => exact ⟨_, st.2.2.1⟩
  | eff v h1 => exact ⟨_, st.2.2.1⟩

def IsEff (tr : TextRun) (i : Nat) : Prop := ∃ v h1, tr.ks i = .eff v h1
structure Setup (P : Program) (sf : Self) (ops : Array Oper) (n : Nat) (tr : TextRun) (XS : List Eff) (RS : List Rdg) : Prop where
  steps : ∀ j o, ops[j]? = some o → TStep P sf ops o (tr.es j) (tr.hs j) (tr.ks j) (tr.es (j + 1)) (tr.hs (j + 1))
  effs : ∀ j v h1, j < ops.size → tr.ks j = .eff v h1 → ⟨j, tr.hs j, h1⟩ ∈ XS
  reads : ∀ j o v, ops[j]? = some o → tr.ks j = .read v → ⟨j, o.op, tr.es j, v, (tr.hs j).next⟩ ∈ RS
  ok : drawOk P (Region.before ops).toList XS RS = true
  region : Region.ok P.types ops true = true
  dst : ∀ o ∈ ops.toList, ∀ d, o.dst = some d → d < n
  pos : 1 ≤ (tr.hs 0).next

theorem lt_of_get (ho : ops[i]? = some o) : i < ops.size := (Array.getElem?_eq_some_iff.1 ho).1
theorem get_of_lt (hi : i < ops.size) : ∃ o, ops[i]? = some o := ⟨ops[i], Array.getElem?_eq_getElem hi⟩
theorem Setup.effsOk (U : Setup P sf ops n tr XS RS) : Ev.effsOk (Region.before ops).toList XS = true ∧ ∀ r ∈ RS, ∀ x ∈ XS, rdgEff P (Region.before ops).toList r x = true := by
  have h := U.ok
  unfold drawOk at h
  cases he : Ev.effsOk (Region.before ops).toList XS with
  | false => rw [he] at h; simp at h
  | true =>
    rw [he] at h
    simp only [cond_true] at h
    exact ⟨rfl, fun r hr x hx => (lall_iff _ _).1 ((lall_iff _ _).1 h r hr) x hx⟩
theorem Setup.eff_next (U : Setup P sf ops n tr XS RS) {v : AV} {h1 : H} (hi : i < ops.size) (hk : tr.ks i = .eff v h1) : (tr.hs i).next ≤ h1.next := by
  have h := U.effsOk.1
  unfold Ev.effsOk at h
  have h2 := (lall_iff _ _).1 h _ (U.effs i v h1 hi hk)
  cases hb : Nat.ble (tr.hs i).next h1.next with
  | true => exact nble.1 hb
  | false => rw [hb] at h2; simp at h2
theorem Setup.pair (U : Setup P sf ops n tr XS RS) (hi : i < ops.size) (he : IsEff tr i) {j : Nat} (hj : j < i) (hje : IsEff tr j) : ((Region.before ops).getD i 0).testBit j = true := by
  obtain ⟨v, h1, hk⟩ := he
  obtain ⟨v', h1', hk'⟩ := hje
  have h := U.effsOk.1
  unfold Ev.effsOk at h
  have h2 := (lall_iff _ _).1 h _ (U.effs i v h1 hi hk)
  cases hb : Nat.ble (tr.hs i).next h1.next with
  | false => rw [hb] at h2; simp at h2
  | true =>
    rw [hb] at h2
    simp only [cond_true] at h2
    have h3 := (lall_iff _ _).1 h2 _ (U.effs j v' h1' (by omega) hk')
    have h4 : Nat.blt j i = true := nblt.2 hj
    simp only [h4, cond_true] at h3
    exact (bitOf_iff ops).1 h3
theorem again_spec {r : Rdg} {h : H} (ha : again P r h = true) : execA r.op P r.env h = .read r.v := by
  unfold again at ha
  split at ha
  · rename_i v hv
    rw [hv, avEq_sound 6 _ _ ha]
  · cases ha
theorem Setup.read_pre (U : Setup P sf ops n tr XS RS) (ho : ops[i]? = some o) {v : AV} (hk : tr.ks i = .read v) {x : Nat} (hx : x < i) (he : IsEff tr x) :
    ((Region.before ops).getD i 0).testBit x = true ∨ (execA o.op P (tr.es i) (tr.hs x) = .read v ∧ ∀ y ∈ o.op.operands, belowN 6 (tr.hs x).next (eval (tr.es i) y) = true) := by
  obtain ⟨u, h1, hx1⟩ := he
  have hi := lt_of_get ho
  have h := U.effsOk.2 _ (U.reads i o v ho hk) _ (U.effs x u h1 (by omega) hx1)
  unfold rdgEff at h
  have h2 : Nat.blt x i = true := nblt.2 hx
  simp only [h2] at h
  cases hb : bitOf (Region.before ops).toList i x with
  | true => exact .inl ((bitOf_iff ops).1 hb)
  | false =>
    rw [hb] at h
    simp only at h
    cases ha : again P ⟨i, o.op, tr.es i, v, (tr.hs i).next⟩ (tr.hs x) with
    | false => rw [ha] at h; simp at h
    | true =>
      rw [ha] at h
      simp only [cond_true] at h
      exact .inr ⟨again_spec ha, fun y hy => (lall_iff _ _).1 h y (by simpa using hy)⟩
theorem Setup.read_post (U : Setup P sf ops n tr XS RS) (ho : ops[i]? = some o) {v : AV} (hk : tr.ks i = .read v) {x : Nat} (hx : i < x) (hxs : x < ops.size) {u : AV} {h1 : H} (he : tr.ks x = .eff u h1) :
    ((Region.before ops).getD x 0).testBit i = true ∨ (execA o.op P (tr.es i) h1 = .read v ∧ belowN 6 (tr.hs i).next v = true) := by
  have h := U.effsOk.2 _ (U.reads i o v ho hk) _ (U.effs x u h1 hxs he)
  unfold rdgEff at h
  have h2 : Nat.blt x i = false := by
    cases hb : Nat.blt x i with
    | false => rfl
    | true => have := nblt.1 hb; omega
  simp only [h2] at h
  cases hb : bitOf (Region.before ops).toList x i with
  | true => exact .inl ((bitOf_iff ops).1 hb)
  | false =>
    rw [hb] at h
    simp only at h
    cases ha : again P ⟨i, o.op, tr.es i, v, (tr.hs i).next⟩ h1 with
    | false => rw [ha] at h; simp at h
    | true =>
      rw [ha] at h
      simp only [cond_true] at h
      exact .inr ⟨again_spec ha, h⟩
theorem Setup.hs_new (U : Setup P sf ops n tr XS RS) (hi : i < ops.size) {x : AObj} {k : NewK} (hk : tr.ks i = .new x k) : tr.hs (i + 1) = (tr.hs i).add x := by
  obtain ⟨o, ho⟩ := get_of_lt hi
  have st := U.steps i o ho
  rw [hk] at st
  exact st.2.2.2.2
theorem Setup.hs_eff (U : Setup P sf ops n tr XS RS) (hi : i < ops.size) {v : AV} {h1 : H} (hk : tr.ks i = .eff v h1) : tr.hs (i + 1) = h1 := by
  obtain ⟨o, ho⟩ := get_of_lt hi
  have st := U.steps i o ho
  rw [hk] at st
  exact st.2.2.2.2
theorem Setup.hs_quiet (U : Setup P sf ops n tr XS RS) (hi : i < ops.size) (h1 : ¬ IsEff tr i) (h2 : ∀ x k, tr.ks i ≠ .new x k) : tr.hs (i + 1) = tr.hs i := by
  obtain ⟨o, ho⟩ := get_of_lt hi
  have st := U.steps i o ho
  cases hk : tr.ks i with
  | off => rw [hk] at st; exact st.2.2.2
  | val v => rw [hk] at st; exact st.2.2.2.2
  | read v => rw [hk] at st; exact st.2.2.2.2
  | new x k => exact (h2 x k hk).elim
  | eff v h => exact (h1 ⟨v, h, hk⟩).elim
theorem Setup.next_step (U : Setup P sf ops n tr XS RS) (hi : i < ops.size) : (tr.hs i).next ≤ (tr.hs (i + 1)).next := by
  cases hk : tr.ks i with
  | new x k => rw [U.hs_new hi hk, H.next_add]; omega
  | eff v h => rw [U.hs_eff hi hk]; exact U.eff_next hi hk
  | off => rw [U.hs_quiet hi (fun ⟨v, h, hh⟩ => by rw [hk] at hh; cases hh) (fun x k hh => by rw [hk] at hh; cases hh)]; exact Nat.le_refl _
  | val v => rw [U.hs_quiet hi (fun ⟨v, h, hh⟩ => by rw [hk] at hh; cases hh) (fun x k hh => by rw [hk] at hh; cases hh)]; exact Nat.le_refl _
  | read v => rw [U.hs_quiet hi (fun ⟨v, h, hh⟩ => by rw [hk] at hh; cases hh) (fun x k hh => by rw [hk] at hh; cases hh)]; exact Nat.le_refl _
theorem Setup.next_mono (U : Setup P sf ops n tr XS RS) {x y : Nat} (hxy : x ≤ y) (hy : y ≤ ops.size) : (tr.hs x).next ≤ (tr.hs y).next := by
  induction hxy with
  | refl => exact Nat.le_refl _
  | @step y hxy ih => exact Nat.le_trans (ih (by omega)) (U.next_step (by omega))
/-- a new object's number lies below what comes later -/
theorem Setup.new_lt (U : Setup P sf ops n tr XS RS) {x : AObj} {k : NewK} (hk : tr.ks i = .new x k) {m : Nat} (h : i < m) (hm : m ≤ ops.size) : (tr.hs i).next < (tr.hs m).next := by
  have h1 := U.next_mono (x := i + 1) (y := m) h hm
  rw [U.hs_new (by omega) hk, H.next_add] at h1
  omega
theorem Setup.new_ne (U : Setup P sf ops n tr XS RS) {j : Nat} {x y : AObj} {k l : NewK} (hi : i < ops.size) (hj : j < ops.size) (hk : tr.ks i = .new x k) (hl : tr.ks j = .new y l) (hne : i ≠ j) : (tr.hs i).next ≠ (tr.hs j).next := by
  rcases Nat.lt_or_gt_of_ne hne with h | h
  · have := U.new_lt hk h (by omega); omega
  · have := U.new_lt hl h (by omega); omega
theorem Setup.es_keep (U : Setup P sf ops n tr XS RS) {t x y : Nat} (hxy : x ≤ y) (hy : y ≤ ops.size) (hno : ∀ j o, x ≤ j → j < y → ops[j]? = some o → o.dst ≠ some t) : getT (tr.es y) t = getT (tr.es x) t := by
  induction hxy with
  | refl => rfl
  | @step y hxy ih =>
    obtain ⟨o, ho⟩ := get_of_lt (show y < ops.size by omega)
    obtain ⟨v, hv⟩ := (U.steps y o ho).env
    rw [hv, getT_setO, if_neg (hno y o hxy (by omega) ho)]
    exact ih (by omega) fun j o h1 h2 => hno j o h1 (by omega)
theorem Setup.temps (U : Setup P sf ops n tr XS RS) : Region.temporariesOk ops (Region.before ops) = true := by
  have h := U.region
  unfold Region.ok at h
  simp only [Bool.and_eq_true] at h
  exact h.1.1.1.2
theorem Setup.edges (U : Setup P sf ops n tr XS RS) (ho : ops[i]? = some o) : (∀ e ∈ o.after, Region.binds .any e = true → e.on < i) ∧ ∀ j want, o.guard = some (j, want) → ∃ e ∈ o.after, e.on = j ∧ Region.binds .any e = true := by
  have h := U.region
  unfold Region.ok at h
  simp only [Bool.and_eq_true] at h
  have h1 := h.1.1.1.1
  rw [Array.all_eq_true_iff_forall_mem] at h1
  have hm : (o, i) ∈ ops.zipIdx := by rw [Array.mem_zipIdx_iff_getElem?]; simpa using ho
  have h2 := h1 (o, i) hm
  simp only [Bool.and_eq_true] at h2
  constructor
  · intro e he hb
    have h3 := Array.all_eq_true_iff_forall_mem.1 h2.1 e he
    unfold Region.binds at hb
    cases hg : e.ground <;> rw [hg] at h3 hb <;> simp_all
  · intro j want hg
    have h3 := h2.2
    rw [hg] at h3
    simp only [Bool.and_eq_true] at h3
    obtain ⟨e, he, hh⟩ := Array.any_eq_true'.1 h3.1
    simp only [Bool.and_eq_true, beq_iff_eq] at hh
    exact ⟨e, he, hh⟩

/-- how far a region has been carried out: q is behind the last effect that was carried out -/
structure Inv (P : Program) (ops : Array Oper) (n : Nat) (tr : TextRun) (ρ0 : Emb) (w0 : World) (listed : Array Bool) (σ : Emb) (q : Nat) (w : World) (tmps : Array Value) : Prop where
  size : listed.size = ops.size
  closed : Closed ops listed
  tsize : tmps.size = n
  qle : q ≤ ops.size
  last : q = 0 ∨ IsEff tr (q - 1)
  effs : ∀ j, j < ops.size → IsEff tr j → (Has listed j ↔ j < q)
  post : Post P ρ0 (tr.hs 0) w0 (upto σ (tr.hs q).next) (tr.hs q) w
  ds : (tr.hs q).ds = (tr.hs 0).ds
  pend : ∀ j x k, j < ops.size → tr.ks j = .new x k → q ≤ j → Has listed j → ∃ e, σ (tr.hs j).next = some e ∧ w0.heap.size ≤ e.block ∧ e.block < w.heap.size ∧ ¬ Foot (upto σ (tr.hs q).next) (tr.hs q) e.block ∧ NewOk x k ∧
    ∀ ρ', Sub (upto σ (tr.hs j).next) ρ' → ORel P ρ' e w.heap[e.block]? x
  apart : ∀ j j' x k x' k' e e', j < ops.size → j' < ops.size → tr.ks j = .new x k → tr.ks j' = .new x' k' → q ≤ j → q ≤ j' → Has listed j → Has listed j' → j ≠ j' → σ (tr.hs j).next = some e → σ (tr.hs j').next = some e' → e.block ≠ e'.block
  open_ : ∀ j x k, j < ops.size → tr.ks j = .new x k → ¬ Has listed j → σ (tr.hs j).next = none
  late : ∀ j x k, j < q → tr.ks j = .new x k → ¬ Has listed j → (tr.hs q).get (tr.hs j).next = x
  only : ∀ id e, (tr.hs q).next ≤ id → σ id = some e → ∃ j x k, j < ops.size ∧ q ≤ j ∧ tr.ks j = .new x k ∧ Has listed j ∧ id = (tr.hs j).next
  env : ∀ t m, m ≤ ops.size → (∀ j o, ops[j]? = some o → o.dst = some t → (Has listed j ↔ j < m)) → VRel (upto σ (tr.hs m).next) (getT (tr.es m) t) (tmps.getD t Go.undef)

/-- memory, further on in the text, up to the next effect -/
theorem Inv.phase (U : Setup P sf ops n tr XS RS) {tmps : Array Value} (I : Inv P ops n tr ρ0 w0 listed σ q w tmps) : ∀ m, q ≤ m → m ≤ ops.size → (∀ j, q ≤ j → j < m → ¬ IsEff tr j) →
    Post P ρ0 (tr.hs 0) w0 (upto σ (tr.hs m).next) (tr.hs m) w ∧ (tr.hs m).ds = (tr.hs 0).ds ∧
    (∀ j x k e, j < ops.size → m ≤ j → tr.ks j = .new x k → Has listed j → σ (tr.hs j).next = some e → ¬ Foot (upto σ (tr.hs m).next) (tr.hs m) e.block) ∧
    (∀ j x k, j < m → tr.ks j = .new x k → ¬ Has listed j → (tr.hs m).get (tr.hs j).next = x) := by
  intro m hqm
  induction hqm with
  | refl =>
    intro hm _
    refine ⟨I.post, I.ds, fun j x k e hj hqj hk hh he => ?_, I.late⟩
    obtain ⟨e', b1, _, _, b2, _⟩ := I.pend j x k hj hk hqj hh
    rw [he] at b1; injection b1 with b1; subst b1; exact b2
  | @step m hqm ih =>
    intro hm hno
    obtain ⟨p1, p2, p3, p4⟩ := ih (by omega) fun j h1 h2 => hno j h1 (by omega)
    have hms : m < ops.size := by omega
    cases hk : tr.ks m with
    | eff v h => exact (hno m hqm (by omega) ⟨v, h, hk⟩).elim
    | new x k =>
      have hadd := U.hs_new hms hk
      have hup : upto σ (tr.hs (m + 1)).next = fun i => if i = (tr.hs m).next then σ (tr.hs m).next else upto σ (tr.hs m).next i := by
        rw [hadd, H.next_add]
        funext i
        by_cases h1 : i = (tr.hs m).next
        · rw [if_pos h1, h1, upto_lt (by omega)]
        · rw [if_neg h1]
          by_cases h2 : i < (tr.hs m).next
          · rw [upto_lt h2, upto_lt (by omega)]
          · rw [upto_ge (by omega), upto_ge (by omega)]
      refine ⟨?_, by rw [hadd, H.ds_add]; exact p2, fun j y l e hj hmj hl hh he hf => ?_, fun j y l hj hl hh => ?_⟩
      · rw [hup, hadd]
        refine p1.addAt x _ fun e he => ?_
        have hh : Has listed m := Classical.byContradiction fun hn => by rw [I.open_ m x k hms hk hn] at he; cases he
        obtain ⟨e', b1, b2, b3, _, b5, b6⟩ := I.pend m x k hms hk hqm hh
        rw [he] at b1; injection b1 with b1; subst b1
        exact ⟨b2, b3, p3 m x k e hms (Nat.le_refl _) hk hh he, b5.peer, b6 _ (Sub.refl _)⟩
      · obtain ⟨i', e', h1, h2, h3⟩ := hf
        rw [hup] at h1
        rw [hadd, H.get_add] at h2
        by_cases hi : i' = (tr.hs m).next
        · try simp only at h1
          rw [if_pos hi] at h1
          have hhm : Has listed m := Classical.byContradiction fun hn => by rw [I.open_ m x k hms hk hn] at h1; cases h1
          exact I.apart m j x k y l e' e hms hj hk hl hqm (Nat.le_trans hqm (by omega)) hhm hh (by omega) h1 he h3
        · try simp only at h1
          rw [if_neg hi] at h1
          rw [if_neg hi] at h2
          exact p3 j y l e hj (by omega) hl hh he ⟨i', e', h1, h2, h3⟩
      · rw [hadd, H.get_add]
        by_cases hjm : j = m
        · subst hjm
          rw [hk] at hl; injection hl with hl _; subst hl
          rw [if_pos rfl]
        · have := U.new_lt hl (show j < m by omega) (by omega)
          rw [if_neg (by omega)]
          exact p4 j y l (by omega) hl hh
    | off =>
      have hq := U.hs_quiet hms (fun ⟨v, h, hh⟩ => by rw [hk] at hh; cases hh) (fun x k hh => by rw [hk] at hh; cases hh)
      rw [hq]
      exact ⟨p1, p2, fun j x k e hj hmj => p3 j x k e hj (by omega), fun j x k hj hl => p4 j x k (by
        have : j ≠ m := fun hh => by subst hh; rw [hk] at hl; cases hl
        omega) hl⟩
    | val v =>
      have hq := U.hs_quiet hms (fun ⟨v, h, hh⟩ => by rw [hk] at hh; cases hh) (fun x k hh => by rw [hk] at hh; cases hh)
      rw [hq]
      exact ⟨p1, p2, fun j x k e hj hmj => p3 j x k e hj (by omega), fun j x k hj hl => p4 j x k (by
        have : j ≠ m := fun hh => by subst hh; rw [hk] at hl; cases hl
        omega) hl⟩
    | read v =>
      have hq := U.hs_quiet hms (fun ⟨v, h, hh⟩ => by rw [hk] at hh; cases hh) (fun x k hh => by rw [hk] at hh; cases hh)
      rw [hq]
      exact ⟨p1, p2, fun j x k e hj hmj => p3 j x k e hj (by omega), fun j x k hj hl => p4 j x k (by
        have : j ≠ m := fun hh => by subst hh; rw [hk] at hl; cases hl
        omega) hl⟩
end
end Go.Proofs.YtfkpcifchgnmnaaGreatDoor.Ev
end

noncomputable section
namespace Go.Proofs.YtfkpcifchgnmnaaGreatDoor.Ev
section
variable {P : Program} {sf : Self} {ops : Array Oper} {n : Nat} {tr : TextRun} {XS : List Eff} {RS : List Rdg} {ρ0 : Emb} {w0 w : World} {a : Act} {listed : Array Bool} {σ : Emb} {q i : Nat} {o : Oper}

theorem ready_not (hs : listed.size = ops.size) (hr : i ∈ Region.ready .any ops listed) : ¬ Has listed i := by
  obtain ⟨h0, o, ho, _⟩ := mem_ready.1 hr
  have hi : i < listed.size := by rw [hs]; exact lt_of_get ho
  unfold Has
  simp [Array.getD_eq_getD_getElem?, hi] at h0 ⊢
  exact h0
theorem has_of_ready_set (hs : listed.size = ops.size) (hi : i < ops.size) (j : Nat) : Has (listed.setIfInBounds i true) j ↔ j = i ∨ Has listed j := has_set (by omega) j

/-- who writes what operation i looks at -/
theorem Inv.writers (U : Setup P sf ops n tr XS RS) {tmps : Array Value} (I : Inv P ops n tr ρ0 w0 listed σ q w tmps) (hr : i ∈ Region.ready .any ops listed) (ho : ops[i]? = some o) {t : Tmp} (ht : t ∈ opNames o) :
    ∀ j o', ops[j]? = some o' → o'.dst = some t → (Has listed j ↔ j < i) := by
  have hnot := ready_not I.size hr
  intro j o' hj hd
  by_cases hji : j = i
  · subst hji; exact ⟨fun h => (hnot h).elim, fun h => by omega⟩
  · have hb := temporaries_spec U.temps hj ho hd ht hji
    rcases Nat.lt_or_gt_of_ne hji with h | h
    · rw [Nat.max_eq_right (by omega), Nat.min_eq_left (by omega)] at hb
      exact ⟨fun _ => h, fun _ => ready_bit I.closed hr hb⟩
    · rw [Nat.max_eq_left (by omega), Nat.min_eq_right (by omega)] at hb
      exact ⟨fun hh => (hnot (I.closed.bit (j + 1) j i (by omega) hh hb)).elim, fun hh => by omega⟩
def opTmps (op : Op) : List Tmp := op.operands.toList.filterMap fun | .tmp t => some t | _ => none
theorem mem_opTmps {op : Op} {t : Tmp} : t ∈ opTmps op ↔ Operand.tmp t ∈ op.operands := by
  unfold opTmps
  rw [List.mem_filterMap]
  constructor
  · rintro ⟨x, hx, he⟩
    cases x with
    | tmp u => simp only [Option.some.injEq] at he; subst he; simpa using hx
    | _ => simp at he
  · intro h
    exact ⟨.tmp t, by simpa using h, rfl⟩
theorem names_of_tmps {t : Tmp} (h : t ∈ opTmps o.op) : t ∈ opNames o := List.mem_append_right _ h
theorem Inv.high (U : Setup P sf ops n tr XS RS) {tmps : Array Value} (I : Inv P ops n tr ρ0 w0 listed σ q w tmps) (hi : i ≤ ops.size) {m : Nat} (hm : m ≤ ops.size) {t : Nat} (ht : n ≤ t) : VRel (upto σ (tr.hs m).next) (getT (tr.es i) t) (tmps.getD t Go.undef) := by
  have hno : ∀ (j : Nat) (o : Oper), ops[j]? = some o → o.dst ≠ some t := fun j o hj hd => by
    have hmem : o ∈ ops.toList := List.mem_of_getElem? (by simpa using hj : ops.toList[j]? = some o)
    have htn : t < n := U.dst o hmem t hd
    exact absurd htn (Nat.not_lt.2 ht)
  have h := I.env t m hm fun j o hj hd => (hno j o hj hd).elim
  have e1 := U.es_keep (t := t) (Nat.zero_le i) hi fun j o _ _ hj => hno j o hj
  have e2 := U.es_keep (t := t) (Nat.zero_le m) hm fun j o _ _ hj => hno j o hj
  rw [e1, ← e2]
  exact h
/-- operation i, as its operands are now -/
theorem Inv.exec (S : Sane P) {ρ : Emb} {h : H} {w' : World} {tmps : Array Value} (h1 : ∀ t ∈ opTmps o.op, VRel ρ (getT (tr.es i) t) (tmps.getD t Go.undef)) (h2 : ∀ t, n ≤ t → VRel ρ (getT (tr.es i) t) (tmps.getD t Go.undef)) :
    NOk P ρ h w' (execOp (ev tmps) o) (execA o.op P (tr.es i) h) := by
  have hE : ERel ρ (maskE (fun t => (opTmps o.op).contains t) n (tr.es i)) tmps := maskE_rel (fun t ht => h1 t (by simpa using ht)) h2
  have hx := exec_sound (h := h) (w := w') S hE o
  rw [execA_congr (e' := tr.es i) o.op] at hx
  · exact hx
  · intro x hx
    refine eval_congr fun t ht => ?_
    subst ht
    exact maskE_keep (by simpa using mem_opTmps.2 hx)
theorem guardOk_spec {all : Array Oper} (hg : guardOk all o = true) {j : Nat} {want : Bool} (ho : o.guard = some (j, want)) {d : Tmp} (hd : (all[j]?).bind (·.dst) = some d) : ∀ k o', all[k]? = some o' → o'.dst = some d → k = j := by
  unfold guardOk at hg
  rw [ho] at hg
  simp only at hg
  rw [hd] at hg
  simp only at hg
  have key : ∀ (l : List Oper) (b : Nat), (List.rec (motive := fun _ => Nat → Bool) (fun _ => true) (fun x _ ih i => cond (match x.dst with | some d' => cond (Nat.beq d' d) (Nat.beq i j) true | none => true) (ih (Nat.succ i)) false) l b : Bool) = true →
      ∀ (k : Nat) (o' : Oper), l[k]? = some o' → o'.dst = some d → b + k = j := by
    intro l
    induction l with
    | nil => intro b _ k o' hk; simp at hk
    | cons x l ih =>
      intro b hb k o' hk hd'
      change cond (match x.dst with | some d' => cond (Nat.beq d' d) (Nat.beq b j) true | none => true) (List.rec (motive := fun _ => Nat → Bool) (fun _ => true) (fun x _ ih i => cond (match x.dst with | some d' => cond (Nat.beq d' d) (Nat.beq i j) true | none => true) (ih (Nat.succ i)) false) l (Nat.succ b)) false = true at hb
      cases hc : (match x.dst with | some d' => cond (Nat.beq d' d) (Nat.beq b j) true | none => true) with
      | false => rw [hc] at hb; simp at hb
      | true =>
        rw [hc] at hb
        simp only [cond_true] at hb
        cases k with
        | zero =>
          simp at hk
          subst hk
          rw [hd'] at hc
          simp only [nbeq.2 rfl, cond_true] at hc
          simpa using nbeq.1 hc
        | succ k =>
          simp at hk
          have := ih (Nat.succ b) hb k o' hk hd'
          omega
  intro k o' hk hd'
  have := key all.toList 0 hg k o' (by simpa using hk) hd'
  omega
theorem wanted_mask {keep : Nat → Bool} {m : Nat} {e : Env} (hk : ∀ j want, o.guard = some (j, want) → ∀ d, (ops[j]?).bind (·.dst) = some d → keep d = true) : wantedA ops (maskE keep m e) o = wantedA ops e o := by
  unfold wantedA
  cases hg : o.guard with
  | none => rfl
  | some p =>
    obtain ⟨j, want⟩ := p
    simp only
    cases hd : (ops[j]?).bind (·.dst) with
    | none => rfl
    | some d => simp only; rw [maskE_keep (hk j want hg d hd)]
/-- is it asked for? -/
theorem Inv.wanted (U : Setup P sf ops n tr XS RS) {tmps : Array Value} (I : Inv P ops n tr ρ0 w0 listed σ q w tmps) (hr : i ∈ Region.ready .any ops listed) (ho : ops[i]? = some o) (hg : guardOk ops o = true) {t : Bool} (hw : wantedA ops (tr.es i) o = some t) :
    Region.wanted o (yielded ops tmps) = t := by
  have hi := lt_of_get ho
  let keep : Nat → Bool := fun t => match o.guard with | some (j, _) => (ops[j]?).bind (·.dst) == some t | none => false
  have hE : ERel (upto σ (tr.hs i).next) (maskE keep n (tr.es i)) tmps := by
    refine maskE_rel (fun d hd => ?_) (fun d hd => I.high U (by omega) (by omega) hd)
    have hd' : ∃ j want, o.guard = some (j, want) ∧ (ops[j]?).bind (·.dst) = some d := by
      simp only [keep] at hd
      cases hgd : o.guard with
      | none => rw [hgd] at hd; simp at hd
      | some p =>
        obtain ⟨j, want⟩ := p
        rw [hgd] at hd
        exact ⟨j, want, rfl, by simpa using hd⟩
    obtain ⟨j, want, hgd, hjd⟩ := hd'
    refine I.env d i (by omega) fun k o' hk hkd => ?_
    have hkj := guardOk_spec hg hgd hjd k o' hk hkd
    subst hkj
    obtain ⟨h1, h2⟩ := U.edges ho
    obtain ⟨e, he, hon, hb⟩ := h2 k want hgd
    obtain ⟨_, o2, ho2, hall⟩ := mem_ready.1 hr
    rw [ho] at ho2; injection ho2 with ho2; subst ho2
    have hlt := h1 e he hb
    have hhas := hall e he hb
    rw [hon] at hlt hhas
    exact ⟨fun _ => hlt, fun _ => hhas⟩
  refine wanted_ok hE ?_
  rw [wanted_mask]
  · exact hw
  · intro j want hgd d hd
    simp only [keep, hgd, hd]
    simp

theorem put_getD {u : Value} {t : Nat} : (a.put o.dst u).tmps.getD t Go.undef = if o.dst = some t ∧ t < a.tmps.size then u else a.tmps.getD t Go.undef := by
  cases hd : o.dst with
  | none => simp [Act.put]
  | some d =>
    simp only [Act.put, Array.getD_eq_getD_getElem?, Array.getElem?_setIfInBounds]
    by_cases h : d = t
    · subst h
      by_cases h2 : d < a.tmps.size
      · simp [h2]
      · simp [h2]
    · simp [h]
theorem Inv.env_next (U : Setup P sf ops n tr XS RS) (I : Inv P ops n tr ρ0 w0 listed σ q w a.tmps) (hr : i ∈ Region.ready .any ops listed) (ho : ops[i]? = some o) {σ' : Emb} (hsub : Sub σ σ') {v : AV} {u : Value}
    (hv : VRel (upto σ' (tr.hs (i + 1)).next) v u) (hes : tr.es (i + 1) = setO (tr.es i) o.dst v) : ∀ t m, m ≤ ops.size → (∀ j o', ops[j]? = some o' → o'.dst = some t → (Has (listed.setIfInBounds i true) j ↔ j < m)) →
    VRel (upto σ' (tr.hs m).next) (getT (tr.es m) t) ((a.put o.dst u).tmps.getD t Go.undef) := by
  have hi := lt_of_get ho
  have hnot := ready_not I.size hr
  have hset := has_of_ready_set (ops := ops) (listed := listed) I.size hi
  intro t m hm hw
  by_cases hd : o.dst = some t
  · have htn : t < n := U.dst o (by simpa using List.mem_of_getElem? (by simpa using ho : ops.toList[i]? = some o)) t hd
    rw [put_getD, if_pos ⟨hd, by rw [I.tsize]; exact htn⟩]
    have him : i < m := (hw i o ho hd).1 ((hset i).2 (.inl rfl))
    have hkeep : getT (tr.es m) t = getT (tr.es (i + 1)) t := by
      refine U.es_keep (by omega) hm fun j o' h1 h2 hj hjd => ?_
      have hh := (hset j).1 ((hw j o' hj hjd).2 h2)
      have hji : j ≠ i := by omega
      have hhj := hh.resolve_left hji
      have hb := temporaries_spec U.temps ho hj hd (show t ∈ opNames o' from List.mem_append_left _ (by simp [hjd])) (by omega)
      rw [Nat.max_eq_right (by omega), Nat.min_eq_left (by omega)] at hb
      exact hnot (I.closed.bit (j + 1) j i (by omega) hhj hb)
    rw [hkeep, hes, getT_setO, if_pos hd]
    exact hv.mono (upto_mono (U.next_mono (by omega) hm))
  · rw [put_getD, if_neg (fun hh => hd hh.1)]
    refine (I.env t m hm fun j o' hj hjd => ?_).mono (hsub.upto _)
    have hji : j ≠ i := fun hh => by subst hh; rw [ho] at hj; injection hj with hj; subst hj; exact hd hjd
    rw [← hw j o' hj hjd, hset]
    exact ⟨.inr, fun hh => hh.resolve_left hji⟩
theorem put_size {u : Value} : (a.put o.dst u).tmps.size = a.tmps.size := by cases o.dst <;> simp [Act.put]

/-- an operation that leaves memory as it is -/
theorem Inv.quiet (U : Setup P sf ops n tr XS RS) (I : Inv P ops n tr ρ0 w0 listed σ q w a.tmps) (hr : i ∈ Region.ready .any ops listed) (ho : ops[i]? = some o) {v : AV} {u : Value} (hv : VRel (upto σ (tr.hs (i + 1)).next) v u)
    (hes : tr.es (i + 1) = setO (tr.es i) o.dst v) (h1 : ¬ IsEff tr i) (h2 : ∀ x k, tr.ks i ≠ .new x k) : Inv P ops n tr ρ0 w0 (listed.setIfInBounds i true) σ q w (a.put o.dst u).tmps := by
  have hi := lt_of_get ho
  have hset := has_of_ready_set (ops := ops) (listed := listed) I.size hi
  have hn : ∀ j x k, tr.ks j = .new x k → (Has (listed.setIfInBounds i true) j ↔ Has listed j) := fun j x k hk => by
    have hji : j ≠ i := fun hh => by subst hh; exact h2 x k hk
    rw [hset]; exact ⟨fun hh => hh.resolve_left hji, .inr⟩
  refine ⟨by simp [I.size], I.closed.set I.size hr, by rw [put_size]; exact I.tsize, I.qle, I.last, fun j hj he => ?_, I.post, I.ds, fun j x k hj hk hq hh => I.pend j x k hj hk hq ((hn j x k hk).1 hh),
    fun j j' x k x' k' e e' hj hj' hk hk' hq hq' hh hh' => I.apart j j' x k x' k' e e' hj hj' hk hk' hq hq' ((hn j x k hk).1 hh) ((hn j' x' k' hk').1 hh'),
    fun j x k hj hk hh => I.open_ j x k hj hk fun h => hh ((hn j x k hk).2 h), fun j x k hj hk hh => I.late j x k hj hk fun h => hh ((hn j x k hk).2 h), fun id e hid he => ?_, I.env_next U hr ho (Sub.refl _) hv hes⟩
  · have hji : j ≠ i := fun hh => by subst hh; exact h1 he
    rw [hset, ← I.effs j hj he]
    exact ⟨fun hh => hh.resolve_left hji, .inr⟩
  · obtain ⟨j, x, k, a1, a2, a3, a4, a5⟩ := I.only id e hid he
    exact ⟨j, x, k, a1, a2, a3, (hn j x k a3).2 a4, a5⟩

/-- a new object -/
theorem Inv.alloc (U : Setup P sf ops n tr XS RS) (I : Inv P ops n tr ρ0 w0 listed σ q w a.tmps) (hr : i ∈ Region.ready .any ops listed) (ho : ops[i]? = some o) {x : AObj} {k : NewK} (hk : tr.ks i = .new x k)
    (hes : tr.es (i + 1) = setO (tr.es i) o.dst (newVal k (tr.hs i).next)) (ok : NewOk x k) (obj : Obj) (cap sz : Nat) (hobj : ∀ ρ' b, Sub (upto σ (tr.hs i).next) ρ' → ORel P ρ' ⟨b, 0, cap, sz⟩ (some obj) x) :
    ∃ σ', Inv P ops n tr ρ0 w0 (listed.setIfInBounds i true) σ' q { w with heap := w.heap.push obj } (a.put o.dst (newC k w.heap.size)).tmps := by
  have hi := lt_of_get ho
  have hnot := ready_not I.size hr
  have hset := has_of_ready_set (ops := ops) (listed := listed) I.size hi
  have hnone := I.open_ i x k hi hk hnot
  have hpush := fun {b : Nat} (hb : b < w.heap.size) => push_get w obj hb
  have hself : ({ w with heap := w.heap.push obj } : World).heap[w.heap.size]? = some obj := by simp
  have hkeep := I.post.keep.size
  generalize hid : (tr.hs i).next = id at *
  refine ⟨fun j => if j = id then some ⟨w.heap.size, 0, cap, sz⟩ else σ j, ?_⟩
  generalize hσ : (fun j => if j = id then some (⟨w.heap.size, 0, cap, sz⟩ : Ext) else σ j : Emb) = σ'
  have hσid : σ' id = some ⟨w.heap.size, 0, cap, sz⟩ := by rw [← hσ]; exact if_pos rfl
  have hσne : ∀ j, j ≠ id → σ' j = σ j := fun j hj => by rw [← hσ]; exact if_neg hj
  have hsub : Sub σ σ' := fun j e he => by
    have : j ≠ id := fun hh => by rw [hh, hnone] at he; cases he
    rw [hσne j this]; exact he
  have hne : ∀ j y l, j < ops.size → tr.ks j = .new y l → j ≠ i → (tr.hs j).next ≠ id := fun j y l hj hl hji => by rw [← hid]; exact U.new_ne hj hi hl hk hji
  have hlt : i < q → id < (tr.hs q).next := fun h => by rw [← hid]; exact U.new_lt hk h I.qle
  have hge : q ≤ i → (tr.hs q).next ≤ id := fun h => by rw [← hid]; exact U.next_mono h (by omega)
  have h0 : (tr.hs 0).next ≤ id := by rw [← hid]; exact U.next_mono (Nat.zero_le i) (by omega)
  have hup : q ≤ i → upto σ' (tr.hs q).next = upto σ (tr.hs q).next := fun h => by
    funext j
    by_cases hj : j < (tr.hs q).next
    · rw [upto_lt hj, upto_lt hj, hσne j (by have := hge h; omega)]
    · rw [upto_ge (by omega), upto_ge (by omega)]
  have hup2 : i < q → upto σ' (tr.hs q).next = fun j => if j = id then some ⟨w.heap.size, 0, cap, sz⟩ else upto σ (tr.hs q).next j := fun h => by
    funext j
    by_cases hj : j = id
    · rw [if_pos hj, hj, upto_lt (hlt h), hσid]
    · rw [if_neg hj]
      by_cases hj2 : j < (tr.hs q).next
      · rw [upto_lt hj2, upto_lt hj2, hσne j hj]
      · rw [upto_ge (by omega), upto_ge (by omega)]
  have hfoot : ∀ b, b < w.heap.size → ¬ Foot (upto σ (tr.hs q).next) (tr.hs q) b → ¬ Foot (upto σ' (tr.hs q).next) (tr.hs q) b := by
    intro b hb hf hf'
    rcases Nat.lt_or_ge i q with h | h
    · obtain ⟨j, e, h1, h2, h3⟩ := hf'
      rw [hup2 h] at h1
      try simp only at h1
      by_cases hj : j = id
      · rw [if_pos hj] at h1
        injection h1 with h1; subst h1
        simp only at h3; omega
      · rw [if_neg hj] at h1
        exact hf ⟨j, e, h1, h2, h3⟩
    · rw [hup h] at hf'
      exact hf hf'
  refine ⟨by simp [I.size], I.closed.set I.size hr, by rw [put_size]; exact I.tsize, I.qle, I.last, fun j hj he => ?_, ?_, I.ds, fun j y l hj hl hq hh => ?_,
    fun j j' y l y' l' e e' hj hj' hl hl' hq hq' hh hh' hjj he he' => ?_, fun j y l hj hl hh => ?_, fun j y l hj hl hh => ?_, fun m e hm he => ?_, I.env_next U hr ho hsub (newVal_rel (id := id) (b := w.heap.size) (cap := cap) (sz := sz) ok ?_) hes⟩
  · have hji : j ≠ i := fun hh => by subst hh; obtain ⟨v, h1, h2⟩ := he; rw [hk] at h2; cases h2
    rw [hset, ← I.effs j hj he]
    exact ⟨fun hh => hh.resolve_left hji, .inr⟩
  · rcases Nat.lt_or_ge i q with h | h
    · rw [hup2 h]
      have hget : (tr.hs q).get id = x := by rw [← hid]; exact I.late i x k h hk hnot
      refine I.post.place h0 (hlt h) (by have := U.pos; omega) (by rw [upto_lt (hlt h)]; exact hnone) obj cap sz (by rw [hget]; exact ok.peer) fun ρ' hs => ?_
      rw [hget]
      exact hobj ρ' _ fun j e he => hs j e (upto_mono (Nat.le_of_lt (hlt h)) j e he)
    · rw [hup h]
      exact I.post.push obj
  · by_cases hji : j = i
    · subst hji
      rw [hk] at hl; injection hl with hl1 hl2; subst hl1; subst hl2
      refine ⟨_, by rw [hid]; exact hσid, hkeep, by simp, ?_, ok, fun ρ' hs => ?_⟩
      · intro hf
        rw [hup hq] at hf
        obtain ⟨m, e, h1, h2, h3⟩ := hf
        have := (I.post.rel.dom m e h1).2.2
        simp only at h3; omega
      · simp only [hself]
        refine hobj ρ' _ fun m e he => hs m e ?_
        rw [hid]
        obtain ⟨b1, b2⟩ := upto_some he
        exact upto_of b1 (hsub _ _ b2)
    · obtain ⟨e, b1, b2, b3, b4, b5, b6⟩ := I.pend j y l hj hl hq (((hset j).1 hh).resolve_left hji)
      refine ⟨e, hsub _ _ b1, b2, by simp; omega, hfoot _ b3 b4, b5, fun ρ' hs => ?_⟩
      rw [hpush b3]
      exact b6 ρ' fun m e he => hs m e (hsub.upto _ m e he)
  · have old : ∀ j y l e, j < ops.size → tr.ks j = .new y l → q ≤ j → Has (listed.setIfInBounds i true) j → j ≠ i → σ' (tr.hs j).next = some e → σ (tr.hs j).next = some e ∧ e.block < w.heap.size := by
      intro j y l e hj hl hq hh hji he
      rw [hσne _ (hne j y l hj hl hji)] at he
      obtain ⟨e2, b1, _, b3, _⟩ := I.pend j y l hj hl hq (((hset j).1 hh).resolve_left hji)
      rw [he] at b1; injection b1 with b1; subst b1
      exact ⟨he, b3⟩
    by_cases h1 : j = i
    · have h2 : j' ≠ i := by omega
      obtain ⟨c1, c2⟩ := old j' y' l' e' hj' hl' hq' hh' h2 he'
      rw [h1, hid, hσid] at he
      injection he with he; subst he
      simp only; omega
    · obtain ⟨c1, c2⟩ := old j y l e hj hl hq hh h1 he
      by_cases h2 : j' = i
      · rw [h2, hid, hσid] at he'
        injection he' with he'; subst he'
        simp only; omega
      · obtain ⟨d1, d2⟩ := old j' y' l' e' hj' hl' hq' hh' h2 he'
        exact I.apart j j' y l y' l' e e' hj hj' hl hl' hq hq' (((hset j).1 hh).resolve_left h1) (((hset j').1 hh').resolve_left h2) hjj c1 d1
  · have hji : j ≠ i := fun hh' => hh ((hset j).2 (.inl hh'))
    rw [hσne _ (hne j y l hj hl hji)]
    exact I.open_ j y l hj hl fun h => hh ((hset j).2 (.inr h))
  · exact I.late j y l hj hl fun h => hh ((hset j).2 (.inr h))
  · by_cases hmi : m = id
    · refine ⟨i, x, k, hi, ?_, hk, (hset i).2 (.inl rfl), by rw [hid]; exact hmi⟩
      rcases Nat.lt_or_ge i q with h | h
      · have := hlt h; omega
      · exact h
    · rw [hσne m hmi] at he
      obtain ⟨j, y, l, a1, a2, a3, a4, a5⟩ := I.only m e hm he
      exact ⟨j, y, l, a1, a2, a3, (hset j).2 (.inr a4), a5⟩
  · rw [upto_lt (by rw [U.hs_new hi hk, H.next_add]; omega)]
    rw [hσid]
end
end Go.Proofs.YtfkpcifchgnmnaaGreatDoor.Ev
end

noncomputable section
namespace Go.Proofs.YtfkpcifchgnmnaaGreatDoor.Ev
section
variable {P : Program} {sf : Self} {ops : Array Oper} {n : Nat} {tr : TextRun} {XS : List Eff} {RS : List Rdg} {ρ0 : Emb} {w0 w : World} {a : Act} {listed : Array Bool} {σ : Emb} {q i : Nat} {o : Oper}

/-- an effect: no other one is left ahead of it -/
theorem Inv.first (U : Setup P sf ops n tr XS RS) {tmps : Array Value} (I : Inv P ops n tr ρ0 w0 listed σ q w tmps) (hr : i ∈ Region.ready .any ops listed) (ho : ops[i]? = some o) (he : IsEff tr i) : q ≤ i ∧ ∀ j, q ≤ j → j < i → ¬ IsEff tr j := by
  have hi := lt_of_get ho
  have hnot := ready_not I.size hr
  constructor
  · rcases Nat.lt_or_ge i q with h | h
    · exact (hnot ((I.effs i hi he).2 h)).elim
    · exact h
  · intro j hq hj hje
    have hb := U.pair hi he hj hje
    have := (I.effs j (by omega) hje).1 (ready_bit I.closed hr hb)
    omega
theorem Inv.effect (U : Setup P sf ops n tr XS RS) (I : Inv P ops n tr ρ0 w0 listed σ q w a.tmps) (hr : i ∈ Region.ready .any ops listed) (ho : ops[i]? = some o) {v : AV} {h1 : H} (hk : tr.ks i = .eff v h1)
    (hes : tr.es (i + 1) = setO (tr.es i) o.dst v) {ρ' : Emb} {w' : World} {u : Value} (p2 : Post P (upto σ (tr.hs i).next) (tr.hs i) w ρ' h1 w') (hv : VRel ρ' v u) (hds : h1.ds = (tr.hs i).ds) :
    ∃ σ' q', Inv P ops n tr ρ0 w0 (listed.setIfInBounds i true) σ' q' w' (a.put o.dst u).tmps := by
  have hi := lt_of_get ho
  have hnot := ready_not I.size hr
  have hset := has_of_ready_set (ops := ops) (listed := listed) I.size hi
  obtain ⟨hqi, hno⟩ := I.first U hr ho ⟨v, h1, hk⟩
  obtain ⟨p1, pds, pf, pl⟩ := I.phase U i hqi (by omega) hno
  have hs1 := U.hs_eff hi hk
  have hnext := p2.next
  have hafter : ∀ j x k, j < ops.size → i < j → tr.ks j = .new x k → h1.next ≤ (tr.hs j).next := fun j x k hj hij _ => by rw [← hs1]; exact U.next_mono hij (by omega)
  have hbefore : ∀ j x k, j < i → tr.ks j = .new x k → (tr.hs j).next < (tr.hs i).next := fun j x k hj hk => U.new_lt hk hj (by omega)
  have hnew_ne : ∀ j x k, tr.ks j = .new x k → j ≠ i := fun j x k hl hh => by subst hh; rw [hk] at hl; cases hl
  generalize hσ : (fun id => if id < h1.next then ρ' id else σ id : Emb) = σ'
  have hσlt : ∀ id, id < h1.next → σ' id = ρ' id := fun id h => by rw [← hσ]; exact if_pos h
  have hσge : ∀ id, h1.next ≤ id → σ' id = σ id := fun id h => by rw [← hσ]; exact if_neg (by omega)
  have honly : ∀ id e, (tr.hs i).next ≤ id → σ id = some e → ∃ j x k, j < ops.size ∧ i < j ∧ tr.ks j = .new x k ∧ Has listed j ∧ id = (tr.hs j).next := by
    intro id e h he
    obtain ⟨j, x, k, a1, a2, a3, a4, a5⟩ := I.only id e (Nat.le_trans (U.next_mono hqi (by omega)) h) he
    refine ⟨j, x, k, a1, ?_, a3, a4, a5⟩
    rcases Nat.lt_or_ge i j with h2 | h2
    · exact h2
    · have h3 := hnew_ne j x k a3
      have h4 := hbefore j x k (by omega) a3
      omega
  have hsub : Sub σ σ' := by
    intro id e he
    rcases Nat.lt_or_ge id (tr.hs i).next with h | h
    · rw [hσlt id (by omega)]
      exact p2.sub id e (upto_of h he)
    · obtain ⟨j, x, k, a1, a2, a3, a4, a5⟩ := honly id e h he
      rw [hσge id (by rw [a5]; exact hafter j x k a1 a2 a3)]
      exact he
  have hup : upto σ' h1.next = ρ' := by
    funext id
    by_cases h : id < h1.next
    · rw [upto_lt h, hσlt id h]
    · rw [upto_ge (by omega)]
      cases hr' : ρ' id with
      | none => rfl
      | some e => have := (p2.rel.dom id e hr').2.1; omega
  have hpend : ∀ j x k, j < ops.size → tr.ks j = .new x k → i < j → Has listed j → ∃ e, σ (tr.hs j).next = some e ∧ w0.heap.size ≤ e.block ∧ e.block < w.heap.size ∧ ¬ Foot (upto σ (tr.hs i).next) (tr.hs i) e.block ∧ NewOk x k ∧
      ∀ ρ', Sub (upto σ (tr.hs j).next) ρ' → ORel P ρ' e w.heap[e.block]? x := by
    intro j x k hj hl hij hh
    obtain ⟨e, b1, b2, b3, b4, b5, b6⟩ := I.pend j x k hj hl (by omega) hh
    exact ⟨e, b1, b2, b3, pf j x k e hj (by omega) hl hh b1, b5, b6⟩
  have hhas : ∀ j, j ≠ i → Has (listed.setIfInBounds i true) j → Has listed j := fun j hji h => ((hset j).1 h).resolve_left hji
  refine ⟨σ', i + 1, ⟨by simp [I.size], I.closed.set I.size hr, by rw [put_size]; exact I.tsize, hi, .inr ⟨v, h1, hk⟩, fun j hj he => ?_, ?_, ?_, fun j x k hj hl hij hh => ?_,
    fun j j' x k x' k' e e' hj hj' hl hl' hij hij' hh hh' hjj he he' => ?_, fun j x k hj hl hh => ?_, fun j x k hj hl hh => ?_, fun id e hid he => ?_, I.env_next U hr ho hsub (by rw [hs1, hup]; exact hv) hes⟩⟩
  · rw [hset]
    by_cases hji : j = i
    · subst hji; exact ⟨fun _ => by omega, fun _ => .inl rfl⟩
    · constructor
      · intro hh
        have := (I.effs j hj he).1 (hh.resolve_left hji)
        omega
      · intro hh
        refine .inr ((I.effs j hj he).2 ?_)
        rcases Nat.lt_or_ge j q with h | h
        · exact h
        · exact (hno j h (by omega) he).elim
  · rw [hs1, hup]; exact p1.trans p2
  · rw [hs1, hds, pds]
  · obtain ⟨e, b1, b2, b3, b4, b5, b6⟩ := hpend j x k hj hl hij (hhas j (by omega) hh)
    refine ⟨e, hsub _ _ b1, b2, Nat.lt_of_lt_of_le b3 p2.keep.size, ?_, b5, fun ρ'' hs => ?_⟩
    · rw [hs1, hup]
      intro hf
      rcases p2.foot _ hf with h | h
      · exact b4 h
      · omega
    · rw [p2.keep.same _ b3 b4]
      exact b6 ρ'' fun m e he => hs m e (hsub.upto _ m e he)
  · obtain ⟨e1, c1, _⟩ := hpend j x k hj hl hij (hhas j (by omega) hh)
    obtain ⟨e2, c2, _⟩ := hpend j' x' k' hj' hl' hij' (hhas j' (by omega) hh')
    have d1 := hsub _ _ c1
    have d2 := hsub _ _ c2
    rw [he] at d1; injection d1 with d1; subst d1
    rw [he'] at d2; injection d2 with d2; subst d2
    exact I.apart j j' x k x' k' e e' hj hj' hl hl' (by omega) (by omega) (hhas j (by omega) hh) (hhas j' (by omega) hh') hjj c1 c2
  · have hn := hnew_ne j x k hl
    have hnh : ¬ Has listed j := fun h => hh ((hset j).2 (.inr h))
    have h0 := I.open_ j x k hj hl hnh
    rcases Nat.lt_or_ge (tr.hs j).next h1.next with h | h
    · rw [hσlt _ h]
      have hji : j < i := by
        rcases Nat.lt_or_ge i j with h2 | h2
        · have := hafter j x k hj h2 hl; omega
        · omega
      have hlt := hbefore j x k hji hl
      cases hρ : ρ' (tr.hs j).next with
      | none => rfl
      | some e =>
        rcases p2.fresh _ e hρ with h3 | h3
        · rw [upto_lt hlt, h0] at h3; cases h3
        · omega
    · rw [hσge _ h]; exact h0
  · have hn := hnew_ne j x k hl
    have hnh : ¬ Has listed j := fun h => hh ((hset j).2 (.inr h))
    have hji : j < i := by omega
    have hlt := hbefore j x k hji hl
    rw [hs1, p2.off _ hlt (by rw [upto_lt hlt]; exact I.open_ j x k (by omega) hl hnh)]
    exact pl j x k hji hl hnh
  · rw [hs1] at hid
    rw [hσge id hid] at he
    obtain ⟨j, x, k, a1, a2, a3, a4, a5⟩ := honly id e (by omega) he
    exact ⟨j, x, k, a1, by omega, a3, (hset j).2 (.inr a4), a5⟩

theorem Inv.opnd (U : Setup P sf ops n tr XS RS) {tmps : Array Value} (I : Inv P ops n tr ρ0 w0 listed σ q w tmps) (hr : i ∈ Region.ready .any ops listed) (ho : ops[i]? = some o) : ∀ t ∈ opTmps o.op, VRel (upto σ (tr.hs i).next) (getT (tr.es i) t) (tmps.getD t Go.undef) :=
  fun t ht => I.env t i (Nat.le_of_lt (lt_of_get ho)) (I.writers U hr ho (names_of_tmps ht))
/-- a reading -/
theorem Inv.reading (S : Sane P) (U : Setup P sf ops n tr XS RS) (I : Inv P ops n tr ρ0 w0 listed σ q w a.tmps) (hr : i ∈ Region.ready .any ops listed) (ho : ops[i]? = some o) {v : AV} (hk : tr.ks i = .read v) (hx : execA o.op P (tr.es i) (tr.hs i) = .read v) :
    ∃ u, VRel (upto σ (tr.hs (i + 1)).next) v u ∧ (execOp a.eval o).run P w = .ok (.value u) w := by
  have hi := lt_of_get ho
  have hnot := ready_not I.size hr
  have hop := I.opnd U hr ho
  have hnext : (tr.hs i).next ≤ (tr.hs (i + 1)).next := U.next_step hi
  rw [eval_eq_ev]
  have read : ∀ {ρ : Emb} {h : H}, WRel P ρ h w → (∀ t ∈ opTmps o.op, VRel ρ (getT (tr.es i) t) (a.tmps.getD t Go.undef)) → (∀ t, n ≤ t → VRel ρ (getT (tr.es i) t) (a.tmps.getD t Go.undef)) → execA o.op P (tr.es i) h = .read v →
      ∃ u, VRel ρ v u ∧ (execOp (ev a.tmps) o).run P w = .ok (.value u) w := by
    intro ρ h W h1 h2 hx
    have hN := Inv.exec (h := h) (w' := w) (n := n) (o := o) (i := i) (tr := tr) (tmps := a.tmps) S h1 h2
    rw [hx] at hN
    exact hN W
  rcases Nat.lt_or_ge i q with hq | hq
  · rcases I.last with h0 | he
    · omega
    · obtain ⟨v', h1, hk'⟩ := he
      have hne : i ≠ q - 1 := fun hh => by rw [hh, hk'] at hk; cases hk
      have hqs := I.qle
      have hs1 : tr.hs q = h1 := by
        have := U.hs_eff (i := q - 1) (by omega) hk'
        rwa [show q - 1 + 1 = q by omega] at this
      rcases U.read_post ho hk (x := q - 1) (by omega) (by omega) hk' with hb | ⟨h2, h3⟩
      · have hhas := (I.effs (q - 1) (by omega) ⟨v', h1, hk'⟩).2 (by omega)
        exact (hnot (I.closed.bit q (q - 1) i (by omega) hhas hb)).elim
      · have hle := U.next_mono (x := i) (y := q) (by omega) hqs
        obtain ⟨u, u1, u2⟩ := read I.post.rel (fun t ht => (hop t ht).mono (upto_mono hle)) (fun t ht => I.high U (by omega) hqs ht) (by rw [hs1]; exact h2)
        refine ⟨u, ?_, u2⟩
        have := below_rel 6 v u h3 u1
        rw [upto_upto hle] at this
        exact this.mono (upto_mono hnext)
  · by_cases hex : ∃ x, q ≤ x ∧ x < i ∧ IsEff tr x
    · obtain ⟨x, hqx, hxi, hxe, hmin⟩ : ∃ x, q ≤ x ∧ x < i ∧ IsEff tr x ∧ ∀ j, q ≤ j → j < x → ¬ IsEff tr j := by
        have key : ∀ m, (∃ x, q ≤ x ∧ x < m ∧ x < i ∧ IsEff tr x) → ∃ x, q ≤ x ∧ x < i ∧ IsEff tr x ∧ ∀ j, q ≤ j → j < x → ¬ IsEff tr j := by
          intro m
          induction m with
          | zero => rintro ⟨x, _, h, _⟩; omega
          | succ m ih =>
            rintro ⟨x, h1, h2, h3, h4⟩
            by_cases hh : ∃ x, q ≤ x ∧ x < m ∧ x < i ∧ IsEff tr x
            · exact ih hh
            · refine ⟨x, h1, h3, h4, fun j hj1 hj2 hj3 => hh ⟨j, hj1, by omega, by omega, hj3⟩⟩
        obtain ⟨x, h1, h2, h3⟩ := hex
        exact key i ⟨x, h1, h2, h2, h3⟩
      have hxn : ¬ Has listed x := fun h => by have := (I.effs x (by omega) hxe).1 h; omega
      rcases U.read_pre ho hk hxi hxe with hb | ⟨h2, h3⟩
      · exact (hxn (ready_bit I.closed hr hb)).elim
      · obtain ⟨p1, _⟩ := I.phase U x hqx (by omega) hmin
        have hle := U.next_mono (x := x) (y := i) (by omega) (by omega)
        obtain ⟨u, u1, u2⟩ := read p1.rel (fun t ht => by
          have hb := h3 (.tmp t) (mem_opTmps.1 ht)
          have := below_rel 6 _ _ hb (hop t ht)
          rwa [upto_upto hle] at this) (fun t ht => I.high U (by omega) (by omega) ht) h2
        exact ⟨u, u1.mono (upto_mono (Nat.le_trans hle hnext)), u2⟩
    · obtain ⟨p1, _⟩ := I.phase U i hq (by omega) fun j h1 h2 h3 => hex ⟨j, h1, h2, h3⟩
      obtain ⟨u, u1, u2⟩ := read p1.rel hop (fun t ht => I.high U (by omega) (by omega) ht) hx
      exact ⟨u, u1.mono (upto_mono hnext), u2⟩

/-- one operation of a region whose order is open -/
theorem Inv.one (S : Sane P) (so : SelfOk P sf) (U : Setup P sf ops n tr XS RS) (I : Inv P ops n tr ρ0 w0 listed σ q w a.tmps) (hr : i ∈ Region.ready .any ops listed) (ho : ops[i]? = some o) (c : Frame) (cs : List Frame) :
    ∃ σ' q' w' u, Inv P ops n tr ρ0 w0 (listed.setIfInBounds i true) σ' q' w' (a.put o.dst u).tmps ∧
      ((Region.wanted o (yielded ops a.tmps) = true ∧ (∀ cc, o.op ≠ .defer cc) ∧ Goes P (execOp a.eval o) c cs w u w') ∨ (Region.wanted o (yielded ops a.tmps) = false ∧ u = Go.undef ∧ w' = w)) := by
  have hi := lt_of_get ho
  have hop := I.opnd U hr ho
  have hhigh : ∀ t, n ≤ t → VRel (upto σ (tr.hs i).next) (getT (tr.es i) t) (a.tmps.getD t Go.undef) := fun t ht => I.high U (by omega) (by omega) ht
  have hnext : (tr.hs i).next ≤ (tr.hs (i + 1)).next := U.next_step hi
  have hexec : ∀ (h : H) (w' : World), NOk P (upto σ (tr.hs i).next) h w' (execOp a.eval o) (execA o.op P (tr.es i) h) := fun h w' => by rw [eval_eq_ev]; exact Inv.exec S hop hhigh
  obtain ⟨hg, st⟩ := U.steps i o ho
  have hwant := fun {t} hw => I.wanted U hr ho hg (t := t) hw
  have nodef : execA o.op P (tr.es i) (tr.hs i) ≠ .fail → ∀ cc, o.op ≠ .defer cc := fun h cc hc => by
    rw [hc] at h; exact h rfl
  cases hk : tr.ks i with
  | off =>
    rw [hk] at st
    obtain ⟨s1, s2, s3⟩ := st
    exact ⟨σ, q, w, Go.undef, I.quiet U hr ho VRel.undef s2 (fun ⟨v, h, hh⟩ => by rw [hk] at hh; cases hh) (fun x k hh => by rw [hk] at hh; cases hh), .inr ⟨hwant s1, rfl, rfl⟩⟩
  | val v =>
    rw [hk] at st
    obtain ⟨s1, s2, s3, s4⟩ := st
    have hN := hexec (tr.hs i) w
    rw [s2] at hN
    obtain ⟨u, u1, u2⟩ := hN
    exact ⟨σ, q, w, u, I.quiet U hr ho (u1.mono (upto_mono hnext)) s3 (fun ⟨v, h, hh⟩ => by rw [hk] at hh; cases hh) (fun x k hh => by rw [hk] at hh; cases hh), .inl ⟨hwant s1, nodef (by rw [s2]; simp), .inl (u2 w)⟩⟩
  | read v =>
    rw [hk] at st
    obtain ⟨s1, s2, s3, s4⟩ := st
    obtain ⟨u, u1, u2⟩ := I.reading S U hr ho hk s2
    exact ⟨σ, q, w, u, I.quiet U hr ho u1 s3 (fun ⟨v, h, hh⟩ => by rw [hk] at hh; cases hh) (fun x k hh => by rw [hk] at hh; cases hh), .inl ⟨hwant s1, nodef (by rw [s2]; simp), .inl u2⟩⟩
  | new x k =>
    rw [hk] at st
    obtain ⟨s1, s2, s3, s4⟩ := st
    have hN := hexec (tr.hs i) w
    rw [s2] at hN
    obtain ⟨ok, obj, cap, sz, hrun, hobj⟩ := hN
    obtain ⟨σ', I'⟩ := I.alloc U hr ho hk s3 ok obj cap sz hobj
    exact ⟨σ', q, _, _, I', .inl ⟨hwant s1, nodef (by rw [s2]; simp), .inl (hrun w)⟩⟩
  | eff v h1 =>
    rw [hk] at st
    obtain ⟨s1, s2, s3, s4⟩ := st
    obtain ⟨hqi, hno⟩ := I.first U hr ho ⟨v, h1, hk⟩
    obtain ⟨p1, pds, pf, pl⟩ := I.phase U i hqi (by omega) hno
    have hN := hexec (tr.hs i) w
    rcases s2 with s2 | ⟨f, as, s2, s5⟩ | ⟨f, as, s2, s5⟩
    · rw [s2] at hN
      obtain ⟨ρ', w', u, hs, hp, hv, hds⟩ := hN p1.rel
      obtain ⟨σ', q', I'⟩ := I.effect U hr ho hk s3 hp hv hds
      refine ⟨σ', q', w', u, I', .inl ⟨hwant s1, nodef (by rw [s2]; simp), ?_⟩⟩
      rcases hs with hs | ⟨hu, hs⟩
      · exact .inl hs
      · exact .inr (.inl ⟨hu, hs⟩)
    · rw [s2] at hN
      obtain ⟨us, hus, hs⟩ := hN
      have hc := so.call f as (tr.hs i) _ w us c cs p1.rel hus
      rw [s5] at hc
      obtain ⟨ρ', w', u, hp, hv, hds, g⟩ := hc
      obtain ⟨σ', q', I'⟩ := I.effect U hr ho hk s3 hp hv hds
      exact ⟨σ', q', w', u, I', .inl ⟨hwant s1, nodef (by rw [s2]; simp), g.congr (hs w)⟩⟩
    · rw [s2] at hN
      obtain ⟨fu, us, hfu, hus, hs⟩ := hN
      have hc := so.callv f as (tr.hs i) _ w fu us c cs p1.rel hfu hus
      rw [s5] at hc
      obtain ⟨ρ', w', u, hp, hv, hds, g⟩ := hc
      obtain ⟨σ', q', I'⟩ := I.effect U hr ho hk s3 hp hv hds
      exact ⟨σ', q', w', u, I', .inl ⟨hwant s1, nodef (by rw [s2]; simp), g.congr (hs w)⟩⟩

/-! all operations -/
def left (l : List Bool) : Nat := l.foldr (fun b m => if b then m else m + 1) 0
theorem left_set : ∀ (l : List Bool) (i : Nat), l[i]? = some false → left (l.set i true) + 1 = left l
  | [], i, h => by simp at h
  | b :: l, 0, h => by simp at h; subst h; simp [left]
  | b :: l, i + 1, h => by
    simp at h
    have := left_set l i h
    unfold left at *
    simp only [List.set_cons_succ, List.foldr_cons]
    cases b <;> simp <;> omega
theorem left_zero : ∀ (l : List Bool), left l = 0 → ∀ b ∈ l, b = true
  | [], _, b, hb => by simp at hb
  | c :: l, h, b, hb => by
    unfold left at h
    rw [List.foldr_cons] at h
    cases c with
    | false => simp at h
    | true =>
      rcases List.mem_cons.1 hb with hb | hb
      · exact hb
      · exact left_zero l (by simpa [left] using h) b hb
theorem all_of_left (hs : listed.size = ops.size) (h : left listed.toList = 0) : ∀ j, j < ops.size → Has listed j := by
  intro j hj
  unfold Has
  have hj' : j < listed.size := by omega
  have := left_zero _ h listed[j] (by simp)
  simp [Array.getD_eq_getD_getElem?, hj', this]
theorem ready_some (U : Setup P sf ops n tr XS RS) (hs : listed.size = ops.size) {j : Nat} (hj : j < ops.size) (hn : ¬ Has listed j) : ∃ i, i ∈ Region.ready .any ops listed := by
  obtain ⟨m, hm, hmn, hmin⟩ : ∃ m, m < ops.size ∧ ¬ Has listed m ∧ ∀ k, k < m → Has listed k := by
    have key : ∀ b, (∃ m, m < b ∧ m < ops.size ∧ ¬ Has listed m) → ∃ m, m < ops.size ∧ ¬ Has listed m ∧ ∀ k, k < m → Has listed k := by
      intro b
      induction b with
      | zero => rintro ⟨m, h, _⟩; omega
      | succ b ih =>
        rintro ⟨m, h1, h2, h3⟩
        by_cases hh : ∃ m, m < b ∧ m < ops.size ∧ ¬ Has listed m
        · exact ih hh
        · exact ⟨m, h2, h3, fun k hk => Classical.byContradiction fun hc => hh ⟨k, by omega, by omega, hc⟩⟩
    exact key ops.size ⟨j, hj, hj, hn⟩
  obtain ⟨o, ho⟩ := get_of_lt hm
  refine ⟨m, mem_ready.2 ⟨?_, o, ho, fun e he hb => hmin _ ((U.edges ho).1 e he hb)⟩⟩
  unfold Has at hmn
  have hm' : m < listed.size := by omega
  simp [Array.getD_eq_getD_getElem?, hm'] at hmn ⊢
  exact hmn

theorem draw_steps (S : Sane P) (so : SelfOk P sf) (U : Setup P sf ops n tr XS RS) {b : Frame} {k : List Item} {cs : List Frame} : ∀ (fuel t : Nat) (listed : Array Bool) (σ : Emb) (q : Nat) (w : World) (a : Act), left listed.toList ≤ fuel → Inv P ops n tr ρ0 w0 listed σ q w a.tmps →
    ∃ listed' σ' q' w' a', Inv P ops n tr ρ0 w0 listed' σ' q' w' a'.tmps ∧ (∀ j, j < ops.size → Has listed' j) ∧ a'.defers = a.defers ∧
      Steps P (lone (b.atR a (.inRegion ops (Region.linearise.go .any ops fuel t listed []) :: k)) cs w) (lone (b.atR a' (.inRegion ops [] :: k)) cs w')
  | 0, t, listed, σ, q, w, a, hf, I => by
    refine ⟨listed, σ, q, w, a, I, all_of_left I.size (by omega), rfl, ?_⟩
    simp only [Region.linearise.go, List.reverse_nil]
    exact Steps.refl P _
  | fuel + 1, t, listed, σ, q, w, a, hf, I => by
    simp only [Region.linearise.go]
    change ∃ listed' σ' q' w' a', Inv P ops n tr ρ0 w0 listed' σ' q' w' a'.tmps ∧ (∀ j, j < ops.size → Has listed' j) ∧ a'.defers = a.defers ∧
      Steps P (lone (b.atR a (.inRegion ops (match (Region.ready .any ops listed)[t % (Region.ready .any ops listed).length]? with
      | some i => Region.linearise.go .any ops fuel (t / (Region.ready .any ops listed).length) (listed.setIfInBounds i true) [i]
      | none => [].reverse) :: k)) cs w) (lone (b.atR a' (.inRegion ops [] :: k)) cs w')
    cases hri : (Region.ready .any ops listed)[t % (Region.ready .any ops listed).length]? with
    | none =>
      have hnil : Region.ready .any ops listed = [] := by
        cases hr : Region.ready .any ops listed with
        | nil => rfl
        | cons x xs =>
          rw [hr] at hri
          have hlt : t % (x :: xs).length < (x :: xs).length := Nat.mod_lt _ (by simp)
          simp at hri
          simp at hlt
          omega
      refine ⟨listed, σ, q, w, a, I, fun j hj => Classical.byContradiction fun hn => ?_, rfl, ?_⟩
      · obtain ⟨i, hi⟩ := ready_some U I.size hj hn
        rw [hnil] at hi; cases hi
      · simp only [List.reverse_nil]
        exact Steps.refl P _
    | some i =>
      have hr : i ∈ Region.ready .any ops listed := List.mem_of_getElem? hri
      obtain ⟨h0, o, ho, _⟩ := mem_ready.1 hr
      simp only []
      rw [linearise_go_acc, List.reverse_singleton, List.singleton_append]
      generalize hrest : Region.linearise.go .any ops fuel (t / (Region.ready .any ops listed).length) (listed.setIfInBounds i true) [] = rest
      have hleft : left (listed.setIfInBounds i true).toList ≤ fuel := by
        have hi : i < listed.size := by rw [I.size]; exact lt_of_get ho
        have hfalse : listed.toList[i]? = some false := by
          simp [Array.getD_eq_getD_getElem?, hi] at h0
          simp [hi, h0]
        have := left_set listed.toList i hfalse
        rw [Array.toList_setIfInBounds]
        omega
      obtain ⟨σ1, q1, w1, u, I1, hcase⟩ := I.one S so U hr ho (b.atR a (.inRegion ops (i :: rest) :: k)) cs
      obtain ⟨listed', σ', q', w', a', I', hall, hdef, hst⟩ := draw_steps S so U (b := b) (k := k) (cs := cs) fuel (t / (Region.ready .any ops listed).length) _ σ1 q1 w1 (a.put o.dst u) hleft I1
      rw [hrest] at hst
      have hput : (a.put o.dst u).defers = a.defers := by cases o.dst <;> rfl
      refine ⟨listed', σ', q', w', a', I', hall, hdef.trans hput, ?_⟩
      rcases hcase with ⟨hw, hd, g⟩ | ⟨hw, rfl, rfl⟩
      · exact (step_goes ho hw hd g).trans hst
      · have hs := stepR_op_skip (P := P) (b := b) (a := a) (k := k) (cs := cs) (w := w1) (ops := ops) (i := i) (rest := rest) (by simp [ho, hw])
        simp only [ho, Option.bind_some] at hs
        exact .head hs hst
end

theorem opsD_ok {P : Program} {sf : Self} {ops : Array Oper} {n : Nat} (S : Sane P) (so : SelfOk P sf) (hops : ∀ o ∈ ops.toList, ∀ d, o.dst = some d → d < n) (hreg : Region.ok P.types ops true = true) {id : Nat} {ρ : Emb} {h : H} {w : World} {e : Env} {b : Frame} {a : Act} {k : List Item} {cs : List Frame}
    (H0 : Here P ρ h w e b a n) :
    CMeets (Leaf P ρ h w b k cs n (lone (b.atR a (.code (.region id ops true) :: k)) cs w)) (opsD P (Region.before ops).toList ops ops.toList 0 [] [] sf e h) := by
  have hran := opsD_ran (P := P) (self := sf) (ops := ops) (Region.before ops).toList ops.toList 0 rfl (Nat.zero_le _) [] [] e h
  rcases hran with hf | ⟨tr, XS, RS, r1, r2, r3, r4, r5, r6, r7, r8, r9⟩
  · rw [hf]; trivial
  · rw [r9]
    have U : Setup P sf ops n tr XS RS := ⟨fun j o ho => r3 j o (Nat.zero_le _) ho, fun j v h1 hj hk => r6 j v h1 (Nat.zero_le _) hj hk, fun j o v ho hk => r7 j o v (Nat.zero_le _) ho hk, r8, hreg, hops, by rw [r2]; exact H0.rel.pos⟩
    have W := H0.rel
    generalize hw1 : ({ w with drawn := w.drawn + 1 } : World) = w1
    have W1 : WRel P ρ h w1 := by rw [← hw1]; exact W.drew _
    have hup : ∀ m, h.next ≤ m → upto ρ m = ρ := fun m hm => by
      funext i
      by_cases hi : i < m
      · rw [upto_lt hi]
      · rw [upto_ge (by omega)]
        cases hr : ρ i with
        | none => rfl
        | some e => have := (W.dom i e hr).2.1; omega
    have hnone : ∀ i, h.next ≤ i → ρ i = none := fun i hi => by
      cases hr : ρ i with
      | none => rfl
      | some e => have := (W.dom i e hr).2.1; omega
    have hno : ∀ j, ¬ Has (Array.replicate ops.size false) j := fun j hj => by
      unfold Has at hj
      simp only [Array.getD_eq_getD_getElem?, Array.getElem?_replicate] at hj
      split at hj <;> simp at hj
    have h0n : (tr.hs 0).next = h.next := by rw [r2]
    have I0 : Inv P ops n tr ρ w1 (Array.replicate ops.size false) ρ 0 w1 a.tmps := by
      refine ⟨by simp, fun j o _ hh => (hno j hh).elim, H0.size, Nat.zero_le _, .inl rfl, fun j _ _ => ⟨fun hh => (hno j hh).elim, fun hh => by omega⟩, ?_, rfl, fun j x k _ _ _ hh => (hno j hh).elim,
        fun j j' x k x' k' e e' _ _ _ _ _ _ hh => (hno j hh).elim, fun j x k hj hk _ => hnone _ ?_, fun j x k hj => by omega, fun id e hid he => ?_, fun t m hm hh => ?_⟩
      · rw [h0n, hup _ (Nat.le_refl _), r2]; exact Post.refl W1
      · rw [← h0n]; exact U.next_mono (Nat.zero_le j) (by omega)
      · rw [h0n] at hid
        rw [hnone id hid] at he; cases he
      · have hle := U.next_mono (Nat.zero_le m) hm
        rw [hup _ (by omega)]
        have hk := U.es_keep (t := t) (Nat.zero_le m) hm fun j o _ hj ho hd => hno j ((hh j o ho hd).2 hj)
        rw [hk, r1]
        exact H0.env t
    obtain ⟨listed', σ', q', w', a', I', hall, hdef, hst⟩ := draw_steps S so U (b := b) (k := k) (cs := cs) ops.size (w.tape w.drawn (.order b.fn id)) _ ρ 0 w1 a (by
      have : ∀ m, left (Array.replicate m false).toList = m := by
        intro m
        induction m with
        | zero => rfl
        | succ m ih => simp only [Array.toList_replicate, List.replicate_succ, left, List.foldr_cons] at ih ⊢; simp [ih]
      rw [this]
      exact Nat.le_refl _) I0
    obtain ⟨p1, pds, _, _⟩ := I'.phase U ops.size I'.qle (Nat.le_refl _) fun j h1 h2 h3 => by
      have := (I'.effs j h2 h3).1 (hall j h2); omega
    rw [r2] at p1 pds
    have pw : Post P ρ h w ρ h w1 := by rw [← hw1]; exact (Post.refl W).drew _
    refine ⟨_, w', a', pw.trans p1, ⟨p1.rel, fun t => ?_, I'.tsize, ?_, H0.kind⟩, ?_⟩
    · exact I'.env t ops.size (Nat.le_refl _) fun j o ho _ => ⟨fun _ => lt_of_get ho, fun hj => hall j hj⟩
    · rw [pds, hdef]; exact H0.marks.mono p1.sub
    · have hs := stepR_region_draw (P := P) (b := b) (a := a) (k := k) (cs := cs) (w := w) (ops := ops) (id := id)
      rw [hw1] at hs
      have hsched : Region.schedule (P.follows .mixedOrders) ops (w.tape w.drawn (.order b.fn id)) = Region.linearise.go .any ops ops.size (w.tape w.drawn (.order b.fn id)) (Array.replicate ops.size false) [] := by
        unfold Region.schedule
        rw [S.mixed]
        simp only [Bool.true_or, if_true]
        rfl
      rw [hsched] at hs
      exact (Steps.head hs hst).trans (.one stepR_region_end)
end Go.Proofs.YtfkpcifchgnmnaaGreatDoor.Ev
end
