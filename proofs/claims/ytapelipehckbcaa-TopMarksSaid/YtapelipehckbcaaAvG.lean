/- Loops over functions, over the abstract view: a round; the statement. -/
import Derived.Test.YtapelipehckbcaaAvF
import Derived.RangeFuncNested
namespace Go.AV
set_option linter.unusedVariables false

def ASt.puts (st : ASt) : List Tmp → List AVal → ASt
  | t :: ts, x :: xs => ASt.puts ⟨(t, x) :: st.tmps, st.n⟩ ts xs
  | _, _ => st

theorem TmpsOK.putA {m : Imm} {st : ASt} {a : Array Value} (h : TmpsOK m st a) {d : Tmp} (hd : d < st.n) {x : AVal} {v : Value} (hx : Tr m x v) : TmpsOK m ⟨(d, x) :: st.tmps, st.n⟩ (a.setIfInBounds d v) := by
  have := TmpsOK.put (a := { tmps := a, defers := [] }) h (d := some d) (by simpa [dstOK] using hd) hx
  simpa [ASt.put, Act.put] using this

theorem TmpsOK.puts {m : Imm} : ∀ (ps : List Tmp) (xs : List AVal) (vs : List Value) {st : ASt} {a : Array Value}, TmpsOK m st a → (ps.all fun t => Nat.blt t st.n) = true → TrL m xs vs → xs.length = ps.length →
    TmpsOK m (st.puts ps xs) ((ps.zip vs).foldl (fun tmps (p : Tmp × Value) => tmps.setIfInBounds p.1 p.2) a)
  | [], xs, vs, st, a, h, _, _, _ => by cases xs <;> simpa [ASt.puts] using h
  | p :: ps, [], vs, st, a, h, _, _, hl => by simp at hl
  | p :: ps, x :: xs, vs, st, a, h, hp, hx, hl => by
    simp only [TrL] at hx
    obtain ⟨v, r, rfl, hv, k⟩ := hx
    simp only [List.all_cons, Bool.and_eq_true, Nat.blt_eq] at hp
    simp only [ASt.puts, List.zip_cons_cons, List.foldl_cons]
    exact TmpsOK.puts ps xs r (h.putA hp.1 hv) (by simpa using hp.2) k (by simpa using hl)

/-- What a round must come to. -/
def roundA (l : Nat) (ps : Array Tmp) (assign body : Code) (st : ASt) (R : AVal → View → Prop) : AQ := fun e st₂ V₂ =>
  match e with
  | .normal => (∃ s pend, V₂ l = some (.loop s pend ps assign body st)) ∧ R (.v (.bool true)) (V₂.set l (.loop .ready none ps assign body st))
  | .ret => (∃ s pend, V₂ l = some (.loop s pend ps assign body st)) ∧ R (.v (.bool false)) (V₂.set l (.loop .done (some .ret) ps assign body st))
  | .exit id => (∃ s pend, V₂ l = some (.loop s pend ps assign body st)) ∧ R (.v (.bool false)) (V₂.set l (.loop .done (some (.exit id)) ps assign body st))
  | .goto t => (∃ s pend, V₂ l = some (.loop s pend ps assign body st)) ∧ R (.v (.bool false)) (V₂.set l (.loop .done (some (.goto t)) ps assign body st))
  | _ => False

def assignA (ρ : Option Nat) (P : Program) (l : Nat) (ps : Array Tmp) (assign body : Code) (st : ASt) (pend : Option Code) (R : AVal → View → Prop) : AQ := fun e st₁ V₁ =>
  match e with
  | .normal => V₁ l = some (.loop .ready pend ps assign body st) ∧ ATrip ρ P body (roundA l ps assign body st R) st₁ (V₁.set l (.loop .busy pend ps assign body st))
  | _ => False

section
variable {P : Program} {Q : AQ} {st : ASt} {V : View}

theorem Sat.loopPut {m : Imm} {w : World} (s : Sat m V w) {l : Nat} {sta sta' : LoopState} {pend pend' : Option Code} {ps : Array Tmp} {assign body : Code} {st : ASt}
    (hl : V l = some (.loop sta pend ps assign body st)) :
    ∃ r : Loop, w.heap[l]? = some (.loop r) ∧ r.state = sta ∧ r.pending = pend ∧ r.params = ps ∧ r.assign = assign ∧ r.body = body ∧ TmpsOK m st r.tmps ∧
      Sat m (V.set l (.loop sta' pend' ps assign body st)) (w.putObj l (.loop { r with state := sta', pending := pend' })) ∧
      Fr m V w m (V.set l (.loop sta' pend' ps assign body st)) (w.putObj l (.loop { r with state := sta', pending := pend' })) := by
  obtain ⟨o', ho, fn, tmps, dfr, rfl, ht⟩ := s.obj l _ hl
  refine ⟨_, ho, rfl, rfl, rfl, rfl, rfl, ht, ?_⟩
  have hlt := (Array.getElem?_eq_some_iff.1 ho).1
  exact s.put hl (o := .loop sta' pend' ps assign body st) (o' := .loop { state := sta', pending := pend', fn := fn, tmps := tmps, params := ps, assign := assign, body := body, defers := dfr })
    ⟨fn, tmps, dfr, rfl, ht⟩ World.putObj_size (World.putObj_heap_same hlt) (fun k hk => World.putObj_heap_other hk) ⟨rfl, rfl⟩

/-- **A round.** -/
theorem a_round {l : Nat} {pend : Option Code} {ps : Array Tmp} {assign body : Code} {args : List AVal} {R : AVal → View → Prop}
    (hl : V l = some (.loop .ready pend ps assign body st)) (hlen : args.length = ps.toList.length) (hps : (ps.toList.all fun t => Nat.blt t st.n) = true)
    (h : ATrip (some l) P assign (assignA (some l) P l ps assign body st pend R) (st.puts ps.toList args) V) : AYield P l args V R := by
  intro m w vals s ht
  obtain ⟨r, hr, hst, hpd, hps', has, hbd, htm, _⟩ := s.loopPut (sta' := .busy) (pend' := pend) hl
  subst hps' has hbd
  refine ⟨r.fn, _, r.assign, r.body, run_yield hr (by have := ht.length; simp; simpa using this.trans hlen), ?_⟩
  refine roundIn_of_wpIn (F := Fence.wide) trivial ?_
  have htm' : TmpsOK m (st.puts r.params.toList args) ((r.params.zip ⟨vals⟩).foldl (fun tmps (p : Tmp × Value) => tmps.setIfInBounds p.1 p.2) r.tmps) := by
    have := TmpsOK.puts r.params.toList args vals htm hps ht hlen
    rw [← Array.foldl_toList, Array.toList_zip]
    exact this
  refine wpIn_mono (h w.heap.size m { tmps := _, defers := [] } w s htm' (DefOK.nil _ _)) ?_
  rintro e a₁ w₁ ⟨m₁, st₁, V₁, q, s₁, t₁, d₁, f₁⟩
  cases e with
  | normal =>
    obtain ⟨hl₁, hb⟩ := q
    obtain ⟨r₁, hr₁, hst₁, _, hps₁, has₁, hbd₁, _, s₂, f₂⟩ := s₁.loopPut (sta' := .busy) (pend' := pend) hl₁
    have hpd₁ : ({ r₁ with state := .busy } : Loop) = { r₁ with state := .busy, pending := pend } := by
      obtain ⟨_, ho, fn, tmps, dfr, he, _⟩ := s₁.obj l _ hl₁
      rw [hr₁] at ho; cases ho; cases he; rfl
    refine ⟨w₁.putObj l (.loop { r₁ with state := .busy }), run_beginRound hr₁ hst₁, ?_⟩
    rw [hpd₁]
    refine wpIn_mono (hb w.heap.size m₁ a₁ _ s₂ t₁ (d₁.fr f₂)) ?_
    rintro e a₂ w₂ ⟨m₂, st₂, V₂, q, s₃, t₃, d₃, f₃⟩
    have fin : ∀ (jump : Option Code), (∃ s pend, V₂ l = some (.loop s pend r.params r.assign r.body st)) → R (.v (.bool jump.isNone)) (V₂.set l (.loop (if jump.isNone then .ready else .done) jump r.params r.assign r.body st)) →
        ∃ v w', (Instr.endRound l jump).run P w₂ = .ok v w' ∧ ∃ m' x V' v', Ending.returned v = .returned v' ∧ Tr m' x v' ∧ R x V' ∧ Sat m' V' w' ∧ Fr m V w m' V' w' := by
      rintro jump ⟨sta, pd, hl₂⟩ hR
      obtain ⟨r₂, hr₂, _, _, _, _, _, _, s₄, f₄⟩ := s₃.loopPut (sta' := if jump.isNone then .ready else .done) (pend' := jump) hl₂
      exact ⟨_, _, run_endRound jump hr₂, m₂, _, _, _, rfl, by simp [Tr], hR, s₄, ((f₁.trans f₂).trans f₃).trans f₄⟩
    cases e with
    | normal => exact fin none q.1 q.2
    | ret => exact fin (some .ret) q.1 q.2
    | exit id => exact fin (some (.exit id)) q.1 q.2
    | goto t => exact fin (some (.goto t)) q.1 q.2
    | panic ch => exact q.elim
    | outgrown => exact q.elim
  | exit id => exact q.elim
  | goto t => exact q.elim
  | ret => exact q.elim
  | panic ch => exact q.elim
  | outgrown => exact q.elim

/-- What is asked behind the call of the function that was ranged over. -/
def rangeA (ρ : Option Nat) (P : Program) (L : Nat) (ps : Array Tmp) (assign body : Code) (st : ASt) (Q : AQ) (V' : View) : Prop :=
  ∃ s pend, V' L = some (.loop s pend ps assign body st) ∧ s ≠ .busy ∧ (match pend with | none => Q .normal st (V'.drop L) | some c => ATrip ρ P c Q st (V'.drop L))

theorem View.drop_le (V : View) (b : Nat) : (V.drop b).le V := fun k o h => by
  by_cases hk : k = b
  · subst hk; simp at h
  · rwa [View.drop_other _ hk] at h

theorem Sat.other {m : Imm} {V : View} {w : World} (s : Sat m V w) {b : Nat} {o : Obj} (hV : V b = none) (hm : m b = none) : Sat m V (w.putObj b o) := by
  refine ⟨fun k cs hk => ?_, fun k x hk => ?_⟩
  · have hne : k ≠ b := fun e => by subst e; rw [hm] at hk; cases hk
    rw [World.putObj_heap_other hne]; exact s.imm k cs hk
  · have hne : k ≠ b := fun e => by subst e; rw [hV] at hk; cases hk
    rw [World.putObj_heap_other hne]; exact s.obj k x hk

theorem range_end {ρ : Option Nat} {m m' : Imm} {V' : View} {w w₁ w₃ : World} {B L : Nat} {a : Act} {ps : Array Tmp} {assign body : Code} {mark : List Deferred}
    (hsz : w.heap.size ≤ L) (f0 : Fr m V w m V w₁) (hL₁ : ∃ r, w₁.heap[L]? = some (.loop r)) (st₀ : AObj) (f' : Fr m (V.set L st₀) w₁ m' V' w₃) (s' : Sat m' V' w₃) (t : TmpsOK m st a.tmps) (d : DefOK B V (mark ++ a.defers) w₁)
    (hr : rangeA ρ P L ps assign body st Q V') :
    ∃ jump w₄, (Instr.endLoop L).run P w₃ = .ok jump w₄ ∧
      (match jump with
       | none => conc B m V w Q .normal { a with defers := mark ++ a.defers } w₄
       | some c => c.wpIn (FR ρ) 0 P (conc B m V w Q) { a with defers := mark ++ a.defers } w₄) := by
  obtain ⟨sta, pend, hl, hb, hq⟩ := hr
  obtain ⟨r, hr, hst, hpd, _, _, _, _, _⟩ := s'.loopPut (sta' := .exhausted) (pend' := pend) hl
  have hmL : m' L = none := by
    cases e : m' L with
    | none => rfl
    | some cs => have := (s'.imm L cs e).1; rw [hl] at this; cases this
  refine ⟨pend, w₃.putObj L (.loop { r with state := .exhausted }), by rw [← hpd]; exact run_endLoop hr (by rw [hst]; exact hb), ?_⟩
  have s4 : Sat m' (V'.drop L) (w₃.putObj L (.loop { r with state := .exhausted })) := (s'.sub (View.drop_le V' L)).other (by simp) hmL
  have hVL : ∀ b, b < w₁.heap.size → V b = none → b ≠ L → V' b = none ∧ w₃.heap[b]? = w₁.heap[b]? := fun b hb hV hne => f'.old b hb (by rw [View.set_other _ _ hne]; exact hV)
  have f4 : Fr m V w m' (V'.drop L) (w₃.putObj L (.loop { r with state := .exhausted })) := by
    refine ⟨by rw [World.putObj_size]; exact Nat.le_trans f0.size f'.size, f'.imm, fun b hbw hV => ?_, (f0.quiet.trans f'.quiet).trans (Quiet.putObj (by rw [hr]; simp [plainO]) (by simp [plainO]) (Array.getElem?_eq_some_iff.1 hr).1)⟩
    have hne : b ≠ L := by omega
    obtain ⟨h1, h2⟩ := f0.old b hbw hV
    obtain ⟨h3, h4⟩ := hVL b (Nat.lt_of_lt_of_le hbw f0.size) hV hne
    exact ⟨by rw [View.drop_other _ hne]; exact h3, by rw [World.putObj_heap_other hne, h4, h2]⟩
  have d4 : DefOK B (V'.drop L) (mark ++ a.defers) (w₃.putObj L (.loop { r with state := .exhausted })) := by
    obtain ⟨hB, l, hn, e, hD⟩ := d
    refine ⟨by rw [World.putObj_size]; exact Nat.le_trans hB f'.size, l, hn, e, fun D hDl => ?_⟩
    obtain ⟨h1, h2, h3⟩ := hD D hDl
    have hlt : D < w₁.heap.size := (Array.getElem?_eq_some_iff.1 h1).1
    have hne : D ≠ L := by
      rintro rfl
      obtain ⟨r₁, hr₁⟩ := hL₁
      rw [h1] at hr₁; cases hr₁
    obtain ⟨k1, k2⟩ := hVL D hlt h2 hne
    exact ⟨by rw [World.putObj_heap_other hne, k2]; exact h1, by rw [View.drop_other _ hne]; exact k1, h3⟩
  cases pend with
  | none => exact ⟨m', st, _, hq, s4, t.mono f4.imm, d4, f4⟩
  | some c =>
    refine wpIn_mono ((show ATrip ρ P c Q st (V'.drop L) from hq) B m' { a with defers := mark ++ a.defers } _ s4 (t.mono f4.imm) d4) (conc_later f4)

theorem CallsIn.wide {n : Nat} {f : FuncId} {args : Array Value} {w : World} {R : Ending → World → Prop} (ρ : Option Nat) (h : CallsIn Fence.wide 0 P f args w R) : CallsIn (FR ρ) n P f args w R :=
  ⟨trivial, fun cs _ => h.2 cs (room_wide _)⟩

/-- **A loop over a function, outside of any round.** -/
theorem a_range {g : Operand} {ps : Array Tmp} {assign body : Code} {f : FuncId} {fs cap : List Value} (hok : calleeOK P f = true) (hg : Ev st g (.v (.func (.func f) ⟨fs⟩ ⟨cap⟩)))
    (h : ∀ L, V L = none → ACalls P f (fs.map .v ++ [.v (.func (.yield L) #[] #[])] ++ cap.map .v) (V.set L (.loop .ready none ps assign body st)) (fun _ V' => rangeA none P L ps assign body st Q V')) :
    ATrip none P (.rangeFunc g ps assign body) Q st V := by
  intro B m a w s t d
  have hv : a.eval g = .func (.func f) ⟨fs⟩ ⟨cap⟩ := by simpa [Tr] using hg m a t
  refine wpIn_rangeFunc fun fn _ => ?_
  have hd1 : AObj.OK m (.raw (.deferred (some []))) (.deferred (some [])) := ⟨rfl, trivial⟩
  obtain ⟨sA, fA⟩ := s.alloc hd1
  have hVD : V w.heap.size = none := s.fresh
  have sA' : Sat m V (w.alloc (.deferred (some []))) := sA.sub (fun b o hb => by
    have hne : b ≠ w.heap.size := fun e => by subst e; rw [hVD] at hb; cases hb
    rw [View.set_other _ _ hne]; exact hb)
  have fA' : Fr m V w m V (w.alloc (.deferred (some []))) := ⟨fA.size, Imm.le_refl _, fun b hb hV => ⟨hV, (fA.old b hb hV).2⟩, fA.quiet⟩
  have hsz : (w.alloc (.deferred (some []))).heap.size = w.heap.size + 1 := by simp
  obtain ⟨sB, fB⟩ := sA'.alloc (o := .loop .ready none ps assign body st) (o' := .loop { state := .ready, pending := none, fn, tmps := a.tmps, params := ps, assign, body, defers := w.heap.size })
    ⟨fn, a.tmps, w.heap.size, rfl, t⟩
  have hVL : V (w.heap.size + 1) = none := by have := sA'.fresh; rwa [hsz] at this
  rw [hsz] at sB fB
  refine ⟨w.heap.size + 1, [{ target := .collected w.heap.size, args := #[] }], ((w.alloc (.deferred (some []))).alloc (.loop { state := .ready, pending := none, fn, tmps := a.tmps, params := ps, assign, body, defers := w.heap.size })), { target := .fn (.func f) ⟨cap⟩, args := ⟨fs ++ [.func (.yield (w.heap.size + 1)) #[] #[]]⟩ }, ((w.alloc (.deferred (some []))).alloc (.loop { state := .ready, pending := none, fn, tmps := a.tmps, params := ps, assign, body, defers := w.heap.size })), f, ⟨fs ++ [.func (.yield (w.heap.size + 1)) #[] #[]] ++ cap⟩, ((w.alloc (.deferred (some []))).alloc (.loop { state := .ready, pending := none, fn, tmps := a.tmps, params := ps, assign, body, defers := w.heap.size })),
    run_enterLoop_outer fn a.tmps ps assign body, ?_, fun _ _ => trivial, ?_, (fun h => by cases h), ?_⟩
  · simp only [resolve, hv, Deferred.ofValue, Sem.run_pure]
    simp [Act.eval]
  · simp only [invoke]
    rw [run_callFunc hok]
    simp
  · have hargs : TrL m (fs.map .v ++ [.v (.func (.yield (w.heap.size + 1)) #[] #[])] ++ cap.map .v) (fs ++ [.func (.yield (w.heap.size + 1)) #[] #[]] ++ cap) :=
      ((TrL_exact m fs).append (TrL_exact m [_])).append (TrL_exact m cap)
    have hc := h _ hVL m _ _ sB hargs
    refine CallsIn.wide none (CallsIn.mono hc ?_)
    rintro e w₃ ⟨m', x, V', v, rfl, _, hr, s', f'⟩
    have fAB : Fr m V w m V ((w.alloc (.deferred (some []))).alloc (.loop { state := .ready, pending := none, fn, tmps := a.tmps, params := ps, assign, body, defers := w.heap.size })) :=
      ⟨by simp; omega, Imm.le_refl _, fun b hb hV => ⟨hV, by
        have h1 := (fA'.old b hb hV).2
        have h2 := (fB.old b (by simp; omega) hV).2
        exact h2.trans h1⟩, (Quiet.alloc _ (by simp [plainO])).trans (Quiet.alloc _ (by simp [plainO]))⟩
    have hD1 : (w.alloc (.deferred (some []))).heap[w.heap.size]? = some (.deferred (some [])) := World.alloc_heap_new w _
    refine range_end (L := w.heap.size + 1) (by omega) fAB ⟨_, by have := World.alloc_heap_new (w.alloc (.deferred (some []))) (.loop { state := .ready, pending := none, fn, tmps := a.tmps, params := ps, assign, body, defers := w.heap.size }); rwa [hsz] at this⟩ _ f' s' t ?_ hr
    obtain ⟨hB, l, hn, e, hD⟩ := d.fr fAB
    have hD0 : ∀ D ∈ l, D < w.heap.size := by
      intro D hDl
      obtain ⟨_, l', _, e', hD'⟩ := d
      have : l = l' := by
        have h := e.symm.trans e'
        have := congrArg (List.map fun (x : Deferred) => match x.target with | .collected D => D | _ => 0) h
        simpa [List.map_map, Function.comp_def] using this
      subst this
      exact (Array.getElem?_eq_some_iff.1 (hD' D hDl).1).1
    refine ⟨hB, w.heap.size :: l, List.nodup_cons.2 ⟨fun hm => by have := hD0 _ hm; omega, hn⟩, by simp [e], fun D hDl => ?_⟩
    rcases List.mem_cons.1 hDl with rfl | hDl
    · exact ⟨((fB.old w.heap.size (by simp) hVD).2).trans hD1, hVD, d.1⟩
    · exact hD D hDl

/-- **A loop over a function, in a round of another one.** -/
theorem a_range_in {l₀ : Nat} {g : Operand} {ps : Array Tmp} {assign body : Code} {f : FuncId} {fs cap : List Value} (hok : calleeOK P f = true) (hg : Ev st g (.v (.func (.func f) ⟨fs⟩ ⟨cap⟩)))
    {sta₀ : LoopState} {pend₀ : Option Code} {ps₀ : Array Tmp} {as₀ body₀ : Code} {st₀ : ASt} (hl₀ : V l₀ = some (.loop sta₀ pend₀ ps₀ as₀ body₀ st₀))
    (h : ∀ L, V L = none → ACalls P f (fs.map .v ++ [.v (.func (.yield L) #[] #[])] ++ cap.map .v) (V.set L (.loop .ready none ps assign body st)) (fun _ V' => rangeA (some l₀) P L ps assign body st Q V')) :
    ATrip (some l₀) P (.rangeFunc g ps assign body) Q st V := by
  intro B m a w s t d
  have hv : a.eval g = .func (.func f) ⟨fs⟩ ⟨cap⟩ := by simpa [Tr] using hg m a t
  refine wpIn_rangeFunc fun fn _ => ?_
  obtain ⟨r₀, hr₀, _⟩ := s.loopPut (sta' := sta₀) (pend' := pend₀) hl₀
  obtain ⟨sB, fB⟩ := s.alloc (o := .loop .ready none ps assign body st) (o' := .loop { state := .ready, pending := none, fn, tmps := a.tmps, params := ps, assign, body, defers := r₀.defers })
    ⟨fn, a.tmps, r₀.defers, rfl, t⟩
  have hVL : V w.heap.size = none := s.fresh
  refine ⟨w.heap.size, [], (w.alloc (.loop { state := .ready, pending := none, fn, tmps := a.tmps, params := ps, assign, body, defers := r₀.defers })), { target := .fn (.func f) ⟨cap⟩, args := ⟨fs ++ [.func (.yield w.heap.size) #[] #[]]⟩ }, (w.alloc (.loop { state := .ready, pending := none, fn, tmps := a.tmps, params := ps, assign, body, defers := r₀.defers })), f, ⟨fs ++ [.func (.yield w.heap.size) #[] #[]] ++ cap⟩, (w.alloc (.loop { state := .ready, pending := none, fn, tmps := a.tmps, params := ps, assign, body, defers := r₀.defers })),
    run_enterLoop_inner hr₀ fn a.tmps ps assign body, ?_, fun _ _ => trivial, ?_, (fun h => by cases h), ?_⟩
  · simp only [resolve, hv, Deferred.ofValue, Sem.run_pure]
    simp [Act.eval]
  · simp only [invoke]
    rw [run_callFunc hok]
    simp
  · have hargs : TrL m (fs.map .v ++ [.v (.func (.yield w.heap.size) #[] #[])] ++ cap.map .v) (fs ++ [.func (.yield w.heap.size) #[] #[]] ++ cap) :=
      ((TrL_exact m fs).append (TrL_exact m [_])).append (TrL_exact m cap)
    have hc := h _ hVL m _ _ sB hargs
    refine CallsIn.wide (some l₀) (CallsIn.mono hc ?_)
    rintro e w₃ ⟨m', x, V', v, rfl, _, hr, s', f'⟩
    have fAB : Fr m V w m V (w.alloc (.loop { state := .ready, pending := none, fn, tmps := a.tmps, params := ps, assign, body, defers := r₀.defers })) :=
      ⟨by simp, Imm.le_refl _, fun b hb hV => ⟨hV, (fB.old b hb hV).2⟩, Quiet.alloc _ (by simp [plainO])⟩
    exact range_end (mark := []) (L := w.heap.size) (Nat.le_refl _) fAB ⟨_, World.alloc_heap_new w _⟩ _ f' s' t (d.fr fAB) hr
end
end Go.AV
