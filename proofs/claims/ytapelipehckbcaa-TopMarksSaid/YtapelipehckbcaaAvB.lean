/- The triples over the abstract view, and the rules of control. -/
import Derived.Test.YtapelipehckbcaaAvA
import Derived.RangeFuncLeaves
import Derived.Scope
namespace Go.AV
set_option linter.unusedVariables false

abbrev FR (ρ : Option Nat) : Fence := { Fence.wide with round := ρ }

/-- The calls that a frame has put off: marks of loops over functions whose blocks are empty, and nothing else. -/
def DefOK (B : Nat) (V : View) (ds : List Deferred) (w : World) : Prop :=
  B ≤ w.heap.size ∧ ∃ l : List Nat, l.Nodup ∧ ds = l.map (fun D => ({ target := .collected D, args := #[] } : Deferred)) ∧ ∀ D ∈ l, w.heap[D]? = some (.deferred (some [])) ∧ V D = none ∧ B ≤ D

theorem DefOK.nil (V : View) (w : World) : DefOK w.heap.size V [] w := ⟨Nat.le_refl _, [], by simp, rfl, by simp⟩
theorem DefOK.fr {B : Nat} {m m' : Imm} {V V' : View} {ds : List Deferred} {w w' : World} (h : DefOK B V ds w) (f : Fr m V w m' V' w') : DefOK B V' ds w' := by
  obtain ⟨hB, l, hn, e, hl⟩ := h
  refine ⟨Nat.le_trans hB f.size, l, hn, e, fun D hD => ?_⟩
  obtain ⟨h1, h2, h3⟩ := hl D hD
  obtain ⟨k1, k2⟩ := f.old D (Array.getElem?_eq_some_iff.1 h1).1 h2
  exact ⟨k2.trans h1, k1, h3⟩

abbrev AQ := Exit → ASt → View → Prop

def conc (B : Nat) (m : Imm) (V : View) (w : World) (Q : AQ) : Exit → Act → World → Prop := fun e a' w' =>
  ∃ m' st' V', Q e st' V' ∧ Sat m' V' w' ∧ TmpsOK m' st' a'.tmps ∧ DefOK B V' a'.defers w' ∧ Fr m V w m' V' w'

theorem conc_later {B : Nat} {m m₁ : Imm} {V V₁ : View} {w w₁ : World} (f : Fr m V w m₁ V₁ w₁) {Q : AQ} : ∀ e a' w', conc B m₁ V₁ w₁ Q e a' w' → conc B m V w Q e a' w' :=
  fun _ _ _ ⟨m', st', V', q, s, t, d, f'⟩ => ⟨m', st', V', q, s, t, d, f.trans f'⟩
theorem conc_mono {B : Nat} {m : Imm} {V : View} {w : World} {Q Q' : AQ} (h : ∀ e st V, Q e st V → Q' e st V) : ∀ e a' w', conc B m V w Q e a' w' → conc B m V w Q' e a' w' :=
  fun _ _ _ ⟨m', st', V', q, r⟩ => ⟨m', st', V', h _ _ _ q, r⟩

def ATrip (ρ : Option Nat) (P : Program) (c : Code) (Q : AQ) (st : ASt) (V : View) : Prop :=
  ∀ B m a w, Sat m V w → TmpsOK m st a.tmps → DefOK B V a.defers w → c.wpIn (FR ρ) 0 P (conc B m V w Q) a w

def AOps (ρ : Option Nat) (P : Program) (ops : Array Oper) (Q : AQ) (l : List Oper) (st : ASt) (V : View) : Prop :=
  ∀ B m a w, Sat m V w → TmpsOK m st a.tmps → DefOK B V a.defers w → wpListIn (FR ρ) 0 P ops (conc B m V w Q) l a w

/-- What a function's call comes to. -/
def ACalls (P : Program) (f : FuncId) (args : List AVal) (V : View) (R : AVal → View → Prop) : Prop :=
  ∀ m w vals, Sat m V w → TrL m args vals → CallsIn Fence.wide 0 P f ⟨vals⟩ w fun e w' =>
    ∃ m' x V' v, e = .returned v ∧ Tr m' x v ∧ R x V' ∧ Sat m' V' w' ∧ Fr m V w m' V' w'

theorem ACalls.mono {P : Program} {f : FuncId} {args : List AVal} {V : View} {R R' : AVal → View → Prop} (h : ACalls P f args V R) (hr : ∀ x V', R x V' → R' x V') : ACalls P f args V R' :=
  fun m w vals hs ht => (h m w vals hs ht).mono fun _ _ ⟨m', x, V', v, e, t, r, s, f⟩ => ⟨m', x, V', v, e, t, hr _ _ r, s, f⟩

/-- What a round of a loop over a function comes to, where 'yield' is called. -/
def AYield (P : Program) (l : Nat) (args : List AVal) (V : View) (R : AVal → View → Prop) : Prop :=
  ∀ m w vals, Sat m V w → TrL m args vals → ∃ f tmps assign body, (Instr.yield l ⟨vals⟩).run P w = .ok (.round l f tmps assign body) w ∧
    RoundIn Fence.wide 0 P l f tmps assign body w fun e w' => ∃ m' x V' v, e = .returned v ∧ Tr m' x v ∧ R x V' ∧ Sat m' V' w' ∧ Fr m V w m' V' w'

theorem AYield.mono {P : Program} {l : Nat} {args : List AVal} {V : View} {R R' : AVal → View → Prop} (h : AYield P l args V R) (hr : ∀ x V', R x V' → R' x V') : AYield P l args V R' := by
  intro m w vals hs ht
  obtain ⟨f, tmps, assign, body, hy, hR⟩ := h m w vals hs ht
  exact ⟨f, tmps, assign, body, hy, hR.mono fun _ _ ⟨m', x, V', v, e, t, r, s, f⟩ => ⟨m', x, V', v, e, t, hr _ _ r, s, f⟩⟩

section control
variable {ρ : Option Nat} {P : Program} {Q : AQ} {st : ASt} {V : View}

theorem ATrip.mono {c : Code} {Q' : AQ} (h : ATrip ρ P c Q st V) (hq : ∀ e st V, Q e st V → Q' e st V) : ATrip ρ P c Q' st V :=
  fun B m a w s t d => wpIn_mono (h B m a w s t d) (conc_mono hq)

def thenA (K : ASt → View → Prop) (Q : AQ) : AQ
  | .normal, st, V => K st V
  | e, st, V => Q e st V

theorem a_skip (h : Q .normal st V) : ATrip ρ P .skip Q st V := fun B m _ w s t d => wpIn_skip ⟨m, st, V, h, s, t, d, Fr.refl _ _ _⟩
theorem a_label {l : Nat} (h : Q .normal st V) : ATrip ρ P (.label l) Q st V := fun B m _ w s t d => wpIn_label ⟨m, st, V, h, s, t, d, Fr.refl _ _ _⟩
theorem a_exit {id : Nat} (h : Q (.exit id) st V) : ATrip ρ P (.exit id) Q st V := fun B m _ w s t d => wpIn_exit ⟨m, st, V, h, s, t, d, Fr.refl _ _ _⟩
theorem a_goto {l : Nat} (h : Q (.goto l) st V) : ATrip ρ P (.goto l) Q st V := fun B m _ w s t d => wpIn_goto ⟨m, st, V, h, s, t, d, Fr.refl _ _ _⟩
theorem a_ret (h : Q .ret st V) : ATrip ρ P .ret Q st V := fun B m _ w s t d => wpIn_ret ⟨m, st, V, h, s, t, d, Fr.refl _ _ _⟩

theorem a_seq {x y : Code} (h : ATrip ρ P x (thenA (fun st V => ATrip ρ P y Q st V) Q) st V) : ATrip ρ P (.seq x y) Q st V := by
  intro B m a w s t d
  refine wpIn_seq (wpIn_mono (h B m a w s t d) ?_)
  rintro e a' w' ⟨m', st', V', q, s', t', d', f⟩
  cases e with
  | normal => exact wpIn_mono (q B m' a' w' s' t' d') (conc_later f)
  | exit id => exact ⟨m', st', V', q, s', t', d', f⟩
  | goto l => exact ⟨m', st', V', q, s', t', d', f⟩
  | ret => exact ⟨m', st', V', q, s', t', d', f⟩
  | panic ch => exact ⟨m', st', V', q, s', t', d', f⟩
  | outgrown => exact ⟨m', st', V', q, s', t', d', f⟩

/-- A block whose own exit is the way on. -/
def blockA (id : Nat) (Q : AQ) : AQ
  | .exit id', st, V => if id' = id then Q .normal st V else Q (.exit id') st V
  | e, st, V => Q e st V

theorem a_block {id : Nat} {c : Code} (h : ATrip ρ P c (blockA id Q) st V) : ATrip ρ P (.block id c) Q st V := by
  intro B m a w s t d
  refine wpIn_block (wpIn_mono (h B m a w s t d) ?_)
  rintro e a' w' ⟨m', st', V', q, s', t', d', f⟩
  cases e with
  | exit id' =>
    simp only [blockA] at q
    simp only [Exit.inBlock]
    split <;> rename_i hid
    · rw [if_pos hid] at q; exact ⟨m', st', V', q, s', t', d', f⟩
    · rw [if_neg hid] at q; exact ⟨m', st', V', q, s', t', d', f⟩
  | normal => exact ⟨m', st', V', q, s', t', d', f⟩
  | goto l => exact ⟨m', st', V', q, s', t', d', f⟩
  | ret => exact ⟨m', st', V', q, s', t', d', f⟩
  | panic ch => exact ⟨m', st', V', q, s', t', d', f⟩
  | outgrown => exact ⟨m', st', V', q, s', t', d', f⟩

/-- A scope that nobody jumps back into. -/
def scopeA (Q : AQ) : AQ
  | .goto _, _, _ => False
  | e, st, V => Q e st V

theorem wpIn_scope {F : Fence} {n : Nat} {c : Code} {Q : Exit → Act → World → Prop} {a : Act} {w : World} (h : c.wpIn F n P (Exit.noGoto Q) a w) : (Code.scope c).wpIn F n P Q a w := by
  intro b k cs hro hb hr
  have step_scope : ∀ {a : Act} {w : World}, step P (lone (b.atR a (.code (.scope c) :: k)) cs w) = .next (lone (b.atR a (.code c :: .inScope c :: k)) cs w) :=
    step_lone_go (by simp [stepG, stepG.exec, Frame.atR])
  have step_inScope : ∀ {a : Act} {w : World}, step P (lone (b.atR a (.inScope c :: k)) cs w) = .next (lone (b.atR a k) cs w) :=
    step_lone_go (by simp [stepG, stepG.exec, Frame.atR])
  have h0 : (lone (b.atR a (.code (.scope c) :: k)) cs w).fenced P F := fenced_calm hb hr rfl
  obtain ⟨e, a₁, w₁, hq, harr⟩ := h b (.inScope c :: k) cs hro hb hr
  cases e with
  | normal => exact ⟨.normal, a₁, w₁, hq, .head h0 step_scope (StepsIn.trans harr (.one (fenced_calm hb hr rfl) step_inScope))⟩
  | exit id =>
    have hx : exitTo id (.inScope c :: k) = exitTo id k := by simp [exitTo]
    exact ⟨.exit id, a₁, w₁, hq, fun k' hk => .head h0 step_scope (harr.1 k' (by rw [hx]; exact hk)),
      fun hr' hk => let ⟨k₁, h1, h2⟩ := harr.2 hr' (by rw [hx]; exact hk); ⟨k₁, h1, .head h0 step_scope h2⟩⟩
  | goto l => exact hq.elim
  | ret => exact ⟨_, a₁, w₁, hq, .of_steps (.one h0 step_scope) harr⟩
  | panic ch => exact ⟨_, a₁, w₁, hq, .of_steps (.one h0 step_scope) harr⟩
  | outgrown => exact ⟨_, a₁, w₁, hq, .of_steps (.one h0 step_scope) harr⟩

theorem a_scope {c : Code} (h : ATrip ρ P c (scopeA Q) st V) : ATrip ρ P (.scope c) Q st V := by
  intro B m a w s t d
  refine wpIn_scope (wpIn_mono (h B m a w s t d) ?_)
  rintro e a' w' ⟨m', st', V', q, r⟩
  cases e with
  | goto l => exact q.elim
  | normal => exact ⟨m', st', V', q, r⟩
  | exit id => exact ⟨m', st', V', q, r⟩
  | ret => exact ⟨m', st', V', q, r⟩
  | panic ch => exact ⟨m', st', V', q, r⟩
  | outgrown => exact ⟨m', st', V', q, r⟩

/-- One forgets temporaries, and blocks. -/
def SubT : List (Nat × AVal) → List (Nat × AVal) → Prop
  | [], _ => True
  | (t, x) :: r, l => l.lookup t = some x ∧ SubT r l
theorem SubT.lookup {l : List (Nat × AVal)} : ∀ {r : List (Nat × AVal)}, SubT r l → ∀ t x, r.lookup t = some x → l.lookup t = some x
  | [], _, t, x, h => by simp at h
  | (t', x') :: r, hs, t, x, h => by
    simp only [SubT] at hs
    simp only [List.lookup_cons] at h
    split at h
    · rename_i he; simp at he h; subst he; subst h; exact hs.1
    · exact SubT.lookup hs.2 t x h
theorem TmpsOK.sub {m : Imm} {l r : List (Nat × AVal)} {n : Nat} {a : Array Value} (h : TmpsOK m ⟨l, n⟩ a) (hs : SubT r l) : TmpsOK m ⟨r, n⟩ a :=
  ⟨h.1, fun t x hx => h.2 t x (hs.lookup t x hx)⟩
theorem a_forget {c : Code} {l r : List (Nat × AVal)} {n : Nat} (hs : SubT r l) (h : ATrip ρ P c Q ⟨r, n⟩ V) : ATrip ρ P c Q ⟨l, n⟩ V :=
  fun B m a w s t d => h B m a w s (t.sub hs) d
def View.le (V' V : View) : Prop := ∀ b o, V' b = some o → V b = some o
theorem View.le_refl (V : View) : V.le V := fun _ _ h => h
theorem View.le_trans {A B C : View} (h : A.le B) (k : B.le C) : A.le C := fun _ _ x => k _ _ (h _ _ x)
theorem View.le_none {V' V : View} (h : V'.le V) {b : Nat} (hb : V b = none) : V' b = none := by
  cases e : V' b with
  | none => rfl
  | some o => rw [h b o e] at hb; cases hb
theorem Fr.sub {m : Imm} {V V' : View} {w : World} (h : V'.le V) : Fr m V w m V' w := ⟨Nat.le_refl _, Imm.le_refl _, fun _ _ hV => ⟨View.le_none h hV, rfl⟩, Quiet.refl _⟩
theorem DefOK.sub {B : Nat} {V V' : View} {ds : List Deferred} {w : World} (d : DefOK B V ds w) (h : V'.le V) : DefOK B V' ds w :=
  let ⟨hB, l, hn, e, hl⟩ := d; ⟨hB, l, hn, e, fun D hD => ⟨(hl D hD).1, View.le_none h (hl D hD).2.1, (hl D hD).2.2⟩⟩
theorem a_weaken {c : Code} {V' : View} (hs : V'.le V) (h : ATrip ρ P c Q st V') : ATrip ρ P c Q st V :=
  fun B m a w s t d => wpIn_mono (h B m a w (s.sub hs) t (d.sub hs)) (conc_later (Fr.sub hs))

/-- A row is left for good: it may be seen as a tree from now on. -/
theorem a_freeze {c : Code} {b : Nat} {cs : List AVal} {N : Option Nat} {st' : ASt} (hb : V b = some (.rown cs N)) (hn : st'.n = st.n)
    (hst : ∀ (m : Imm) us, m b = some us → TrL m cs us → ∀ t x, st'.tmps.lookup t = some x → st.tmps.lookup t = some x ∨ ∃ y, st.tmps.lookup t = some y ∧ ∀ v, Tr m y v → Tr m x v)
    (h : ATrip ρ P c Q st' (V.drop b)) : ATrip ρ P c Q st V := by
  intro B m a w s t d
  obtain ⟨us, htl, s', f⟩ := s.freeze hb
  have t' := t.mono f.imm
  refine wpIn_mono (h B _ a w s' ⟨t'.1.trans hn.symm, fun k x hx => ?_⟩ (d.fr f)) (conc_later f)
  rcases hst _ us (by simp) (htl.mono f.imm) k x hx with hx' | ⟨y, hy, hyx⟩
  · exact t'.2 k x hx'
  · obtain ⟨v, hv, ht⟩ := t'.2 k y hy
    exact ⟨v, hv, hyx v ht⟩

theorem a_loop {c : Code} (I : Nat → ASt → View → Prop)
    (h : ∀ n st V, I n st V → ATrip ρ P c (thenA (fun st' V' => ∃ n', n' < n ∧ I n' st' V') Q) st V) : ∀ n st V, I n st V → ATrip ρ P (.loop c) Q st V := by
  intro n st V hI B m a w s t d b k cs hro hb hr
  have key : ∀ j, ∀ n, n = j → ∀ st V m₁ a w₁, I n st V → Sat m₁ V w₁ → TmpsOK m₁ st a.tmps → DefOK B V a.defers w₁ →
      ∃ e a' w', conc B m₁ V w₁ Q e a' w' ∧ ArrivesIn (Machine.fenced P (FR ρ)) P (lone (b.atR a (.code c :: .inLoop c :: k)) cs w₁) b k cs e a' w' := by
    intro j
    induction j using Nat.strongRecOn with
    | _ j ih =>
      intro n hn st V m₁ a w₁ hI s t d
      obtain ⟨e, a₁, w₂, ⟨m₂, st₂, V₂, q, s₂, t₂, d₂, f₂⟩, harr⟩ := h n st V hI B m₁ a w₁ s t d b (.inLoop c :: k) cs hro hb hr
      cases e with
      | normal =>
        obtain ⟨n', hlt, hI'⟩ := q
        obtain ⟨e₂, a₂, w₃, hq₂, harr₂⟩ := ih n' (hn ▸ hlt) n' rfl st₂ V₂ m₂ a₁ w₂ hI' s₂ t₂ d₂
        exact ⟨e₂, a₂, w₃, conc_later f₂ _ _ _ hq₂, .of_steps (StepsIn.trans harr (.one (fenced_calm hb hr rfl) stepR_inLoop)) harr₂⟩
      | exit id => exact ⟨_, a₁, w₂, ⟨m₂, st₂, V₂, q, s₂, t₂, d₂, f₂⟩, .pass (x := .inLoop c) rfl (fun _ _ => .inl (by simp)) harr⟩
      | goto l => exact ⟨_, a₁, w₂, ⟨m₂, st₂, V₂, q, s₂, t₂, d₂, f₂⟩, .pass (x := .inLoop c) rfl (fun _ _ => .inl (by simp)) harr⟩
      | ret => exact ⟨_, a₁, w₂, ⟨m₂, st₂, V₂, q, s₂, t₂, d₂, f₂⟩, .pass (x := .inLoop c) rfl (fun _ _ => .inl (by simp)) harr⟩
      | panic ch => exact ⟨_, a₁, w₂, ⟨m₂, st₂, V₂, q, s₂, t₂, d₂, f₂⟩, .pass (x := .inLoop c) rfl (fun _ _ => .inl (by simp)) harr⟩
      | outgrown => exact ⟨_, a₁, w₂, ⟨m₂, st₂, V₂, q, s₂, t₂, d₂, f₂⟩, .pass (x := .inLoop c) rfl (fun _ _ => .inl (by simp)) harr⟩
  obtain ⟨e, a', w', hq, harr⟩ := key _ n rfl st V m a w hI s t d
  exact ⟨e, a', w', hq, .of_steps (.one (fenced_calm hb hr rfl) stepR_loop) harr⟩

theorem a_region {id : Nat} {ops : Array Oper} (h : AOps ρ P ops Q ops.toList st V) : ATrip ρ P (.region id ops false) Q st V :=
  fun B m a w s t d => wpIn_region_list (h B m a w s t d)
theorem a_nil {ops : Array Oper} (h : Q .normal st V) : AOps ρ P ops Q [] st V :=
  fun B m _ w s t d => ⟨m, st, V, h, s, t, d, Fr.refl _ _ _⟩

/-! ### Operands -/
def Ev (st : ASt) (y : Operand) (x : AVal) : Prop := ∀ (m : Imm) (a : Act), TmpsOK m st a.tmps → Tr m x (a.eval y)

theorem ev_t {t : Nat} {x : AVal} (h : st.tmps.lookup t = some x) : Ev st (.tmp t) x := fun m a k => by
  obtain ⟨v, hv, ht⟩ := k.2 t x h
  simp only [Act.eval]
  rw [Array.getD_eq_getD_getElem?, hv]; exact ht
theorem ev_c {u : Value} : Ev st (.const u) (.v u) := fun m a _ => by simp [Act.eval, Tr]
theorem ev_f {f : FuncId} : Ev st (.func f) (.v (.func (.func f) #[] #[])) := fun m a _ => by simp [Act.eval, Tr]
theorem ev_cond {y : Operand} {c : Prop} {x : AVal} (h : Ev st y (.cond c x)) (hc : c) : Ev st y x := fun m a k => by
  have := h m a k
  simp only [Tr] at this
  rcases this with ⟨_, h⟩ | ⟨h, _⟩
  · exact h
  · exact absurd hc h

theorem a_cond {y : Operand} {c₁ c₂ : Code} {b : Bool} (hy : Ev st y (.v (.bool b))) (ht : b = true → ATrip ρ P c₁ Q st V) (hf : b = false → ATrip ρ P c₂ Q st V) :
    ATrip ρ P (.cond y c₁ c₂) Q st V := by
  intro B m a w s t d
  have hv : a.eval y = .bool b := by simpa [Tr] using hy m a t
  exact wpIn_cond_split hv (fun h => ht h B m a w s t d) (fun h => hf h B m a w s t d)

/-! ### Operations -/
def OpS (ρ : Option Nat) (P : Program) (o : Oper) (st : ASt) (V : View) (Post : AVal → View → Prop) : Prop :=
  ∀ m a w, Sat m V w → TmpsOK m st a.tmps → ∀ (next : Act → World → Prop) (Q : Exit → Act → World → Prop),
    (∀ v m' w' x V', Post x V' → Tr m' x v → Sat m' V' w' → Fr m V w m' V' w' → next (a.put o.dst v) w') → o.wpIn (FR ρ) 0 P a w next Q

def ASt.put (st : ASt) (d : Option Tmp) (x : AVal) : ASt :=
  match d with
  | some d => { st with tmps := (d, x) :: st.tmps }
  | none => st

def dstOK (d : Option Tmp) (n : Nat) : Bool :=
  match d with
  | some d => d < n
  | none => true

theorem TmpsOK.put {m : Imm} {a : Act} (h : TmpsOK m st a.tmps) {d : Option Tmp} (hd : dstOK d st.n = true) {x : AVal} {v : Value} (hx : Tr m x v) : TmpsOK m (st.put d x) (a.put d v).tmps := by
  cases d with
  | none => exact h
  | some d =>
    simp only [dstOK, decide_eq_true_eq] at hd
    refine ⟨by simp [Act.put, ASt.put, h.1], fun t y hy => ?_⟩
    simp only [ASt.put, List.lookup_cons] at hy
    by_cases he : t = d
    · subst he
      simp at hy; subst hy
      exact ⟨v, by simp [Act.put, h.1, hd], hx⟩
    · have : (t == d) = false := by simpa using he
      rw [this] at hy
      obtain ⟨u, hu, ht⟩ := h.2 t y hy
      exact ⟨u, by simp only [Act.put]; rw [Array.getElem?_setIfInBounds_ne (Ne.symm he)]; exact hu, ht⟩

theorem a_op {ops : Array Oper} {o : Oper} {rest : List Oper} {Post : AVal → View → Prop} (hg : o.guard = none) (hd : dstOK o.dst st.n = true) (ho : OpS ρ P o st V Post)
    (h : ∀ x V', Post x V' → AOps ρ P ops Q rest (st.put o.dst x) V') : AOps ρ P ops Q (o :: rest) st V := by
  intro B m a w s t d
  refine wpListIn_plain hg fun K hK => ho m a w s t K _ fun v m' w' x V' hp hx s' f => hK _ _ ?_
  have := h x V' hp B m' (a.put o.dst v) w' s' ((t.mono f.imm).put hd hx) (by cases o.dst <;> exact d.fr f)
  exact wpListIn_mono (conc_later f) _ _ _ this
where
  wpListIn_mono {F : Fence} {n : Nat} {P : Program} {ops : Array Oper} {Q Q' : Exit → Act → World → Prop} (hq : ∀ e a w, Q e a w → Q' e a w) :
      ∀ (l : List Oper) (a : Act) (w : World), wpListIn F n P ops Q l a w → wpListIn F n P ops Q' l a w := by
    intro l
    induction l with
    | nil => exact fun a w h => hq _ _ _ h
    | cons o rest ih =>
      intro a w h
      simp only [wpListIn] at h ⊢
      split
      · rename_i hw
        rw [if_pos hw] at h
        refine ⟨h.1, ?_⟩
        have h2 := h.2
        unfold Oper.uponIn at h2 ⊢
        split <;> rename_i he <;> simp only [he] at h2
        · exact ih _ _ h2
        · exact ih _ _ h2
        · exact ih _ _ h2
        · refine ⟨h2.1, h2.2.mono fun e w' he => ?_⟩
          cases e with
          | returned v => exact ih _ _ he
          | panicked ch => exact hq _ _ _ he
          | outgrown => obtain ⟨a0, w0, h0⟩ := he; exact ⟨a0, w0, hq _ _ _ h0⟩
        · exact ⟨h2.1, h2.2.mono fun v w' he => ih _ _ he⟩
        · refine ⟨h2.1, h2.2.mono fun e w' he => ?_⟩
          cases e with
          | returned v => exact ih _ _ he
          | panicked ch => exact hq _ _ _ he
          | outgrown => obtain ⟨a0, w0, h0⟩ := he; exact ⟨a0, w0, hq _ _ _ h0⟩
        · exact hq _ _ _ h2
      · rename_i hw
        rw [if_neg hw] at h
        exact ⟨h.1, ih _ _ h.2⟩
end control
end Go.AV
