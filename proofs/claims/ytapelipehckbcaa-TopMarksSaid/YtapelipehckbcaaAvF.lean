/- Calls over the abstract view: functions, closures, loops over functions. -/
import Derived.Test.YtapelipehckbcaaAvE
namespace Go.AV
set_option linter.unusedVariables false

/-- What is asked of a function that is called: it has a body, and is none of the model's own. -/
def calleeOK (P : Program) (f : FuncId) : Bool :=
  match P.funcs[f]? with
  | some fn => fn.body.isSome && fn.name != "runtime.NumGoroutine"
  | none => false

inductive EvL (st : ASt) : List Operand → List AVal → Prop
  | nil : EvL st [] []
  | cons {y : Operand} {ys : List Operand} {x : AVal} {xs : List AVal} (h : Ev st y x) (k : EvL st ys xs) : EvL st (y :: ys) (x :: xs)

theorem EvL.map {st : ASt} {m : Imm} {a : Act} (q : TmpsOK m st a.tmps) {ys : List Operand} {xs : List AVal} (h : EvL st ys xs) : TrL m xs (ys.map a.eval) := by
  induction h with
  | nil => rfl
  | cons h k ih => exact ⟨_, _, rfl, h m a q, ih⟩

theorem run_callFunc {P : Program} {f : FuncId} (h : calleeOK P f = true) (args : Array Value) (w : World) : (callFunc f args).run P w = .ok (.enter f args) w := by
  unfold calleeOK at h
  split at h
  · rename_i fn hf
    simp only [Bool.and_eq_true, bne_iff_ne, ne_eq] at h
    unfold callFunc
    cases hb : fn.body with
    | none => simp [hb] at h
    | some c => simp [Sem.run_bind, program, Sem.run, hf, h.2, hb, Result.andThen]
  · cases h

section
variable {ρ : Option Nat} {P : Program} {Q : AQ} {st : ASt} {V : View} {o : Oper} {ops : Array Oper} {rest : List Oper}
  {d : Option Tmp} {ty : TypeId} {pos : String} {aft : Array Edge} {gd : Option (Nat × Bool)}

theorem s_call {g : Operand} {f : FuncId} {fs cap : List Value} {ys : List Operand} {ats : Array TypeId} {xs : List AVal} {R : AVal → View → Prop}
    (hok : calleeOK P f = true) (hg : Ev st g (.v (.func (.func f) ⟨fs⟩ ⟨cap⟩))) (hy : EvL st ys xs)
    (h : ACalls P f (fs.map .v ++ xs ++ cap.map .v) V R) :
    OpS ρ P ⟨d, .call ⟨.value g, ⟨ys⟩, ats⟩, ty, pos, aft, gd⟩ st V R := by
  intro m a w s t next Q hn
  refine ⟨fun _ _ => trivial, ?_⟩
  have hv : a.eval g = .func (.func f) ⟨fs⟩ ⟨cap⟩ := by simpa [Tr] using hg m a t
  have hargs : TrL m (fs.map .v ++ xs ++ cap.map .v) (fs ++ ys.map a.eval ++ cap) := ((TrL_exact m fs).append (hy.map t)).append (TrL_exact m cap)
  have hrun : (execOp a.eval ⟨d, .call ⟨.value g, ⟨ys⟩, ats⟩, ty, pos, aft, gd⟩).run P w = .ok (.enter f ⟨fs ++ ys.map a.eval ++ cap⟩) w := by
    simp only [execOp, resolve, Sem.run_bind, hv, Deferred.ofValue, Sem.run_pure, Result.andThen, invoke]
    rw [run_callFunc hok]
    simp
  rw [Oper.semAt_eq _ _ _ (by intro c h; cases h), hrun]
  refine ⟨(fun h => by cases h), ?_⟩
  have := h m w _ s hargs
  refine CallsIn.mono (F := FR ρ) this ?_
  rintro e w' ⟨m', x, V', v, rfl, hx, hr, s', f'⟩
  exact hn v m' w' x V' hr hx s' f'

theorem s_yield {g : Operand} {l : Nat} {ys : List Operand} {ats : Array TypeId} {xs : List AVal} {R : AVal → View → Prop}
    (hg : Ev st g (.v (.func (.yield l) #[] #[]))) (hy : EvL st ys xs) (h : AYield P l xs V R) :
    OpS ρ P ⟨d, .call ⟨.value g, ⟨ys⟩, ats⟩, ty, pos, aft, gd⟩ st V R := by
  intro m a w s t next Q hn
  refine ⟨fun _ _ => trivial, ?_⟩
  have hv : a.eval g = .func (.yield l) #[] #[] := by simpa [Tr] using hg m a t
  obtain ⟨f, tmps, assign, body, hyd, hR⟩ := h m w _ s (hy.map t)
  have hrun : (execOp a.eval ⟨d, .call ⟨.value g, ⟨ys⟩, ats⟩, ty, pos, aft, gd⟩).run P w = .ok (.round l f tmps assign body) w := by
    simp only [execOp, resolve, Sem.run_bind, hv, Deferred.ofValue, Sem.run_pure, Result.andThen, invoke]
    simpa using hyd
  rw [Oper.semAt_eq _ _ _ (by intro c h; cases h), hrun]
  refine ⟨(fun h => by cases h), ?_⟩
  refine RoundIn.mono (F := FR ρ) hR ?_
  rintro e w' ⟨m', x, V', v, rfl, hx, hr, s', f'⟩
  exact hn v m' w' x V' hr hx s' f'

/-! ### A function from its body -/
/-- What a result variable holds. -/
def ARes (P : Program) (st : ASt) (V : View) : List ResultVar → List AVal → Prop
  | [], xs => xs = []
  | .tmp t :: rs, xs => ∃ x r, xs = x :: r ∧ Ev st (.tmp t) x ∧ ARes P st V rs r
  | .cell t T :: rs, xs => ∃ x r g n b off cs N, xs = x :: r ∧ shp P T = some (g, n) ∧ Ev st (.tmp t) (.v (.pointer (some ⟨b, off, none⟩))) ∧ V b = some (.rown cs N) ∧ rdc g n cs off = some x ∧ ARes P st V rs r

def oneOf : List AVal → AVal
  | [x] => x
  | xs => .tuple xs

def resOf (tmps : Array Value) : ResultVar → Sem Value
  | .tmp t => pure (tmps.getD t undef)
  | .cell p t => do loadVar t (← asAddr (tmps.getD p undef))
theorem resOf_tmp (tmps : Array Value) (t : Tmp) : resOf tmps (.tmp t) = pure (tmps.getD t undef) := rfl
theorem resOf_cell (tmps : Array Value) (p : Tmp) (t : TypeId) : resOf tmps (.cell p t) = (do loadVar t (← asAddr (tmps.getD p undef))) := rfl

theorem run_results {m : Imm} {a : Act} {w : World} (s : Sat m V w) (q : TmpsOK m st a.tmps) : ∀ {rs : List ResultVar} {xs : List AVal}, ARes P st V rs xs →
    ∃ vs, TrL m xs vs ∧ (rs.mapM (resOf a.tmps)).run P w = .ok vs w
  | [], xs, h => by simp only [ARes] at h; subst h; exact ⟨[], rfl, by simp⟩
  | .tmp t :: rs, xs, h => by
    simp only [ARes] at h
    obtain ⟨x, r, rfl, hx, k⟩ := h
    obtain ⟨vs, hvs, hr⟩ := run_results s q k
    refine ⟨a.eval (.tmp t) :: vs, ⟨_, _, rfl, hx m a q, hvs⟩, ?_⟩
    simp only [List.mapM_cons, resOf_tmp, Sem.run_bind, Sem.run_pure, Result.andThen, hr]; rfl
  | .cell t T :: rs, xs, h => by
    simp only [ARes] at h
    obtain ⟨x, r, g, n, b, off, cs, N, rfl, hs, hp, hb, hx, k⟩ := h
    obtain ⟨vs, hvs, hr⟩ := run_results s q k
    have hv : a.tmps.getD t undef = .pointer (some ⟨b, off, none⟩) := by simpa [Tr, Act.eval] using hp m a q
    obtain ⟨o', ho, c, TT, rfl, ⟨us, r', hc, ht⟩, _⟩ := s.obj b _ hb
    obtain ⟨u, hu, htu⟩ := rdc_rdv ht hx
    refine ⟨u :: vs, ⟨_, _, rfl, htu, hvs⟩, ?_⟩
    simp only [List.mapM_cons, resOf_cell, Sem.run_bind, hv, asAddr, Sem.run_pure, Result.andThen, run_loadVar_rdv ho hs (by rw [hc]; exact hu r'), hr]

/-- What a function's body must come to. -/
def retA (P : Program) (fn : Func) (R : AVal → View → Prop) : AQ := fun e st V =>
  match e with
  | .normal | .ret => ∃ xs V', ARes P st V fn.results.toList xs ∧ V'.le V ∧ R (oneOf xs) V'
  | _ => False

def argsAt : Nat → List AVal → List (Nat × AVal)
  | _, [] => []
  | i, x :: xs => (i, x) :: argsAt (i + 1) xs

theorem lookup_argsAt : ∀ (xs : List AVal) (i t : Nat) (x : AVal), (argsAt i xs).lookup t = some x → i ≤ t ∧ xs[t - i]? = some x
  | [], i, t, x, h => by simp [argsAt] at h
  | y :: xs, i, t, x, h => by
    simp only [argsAt, List.lookup_cons] at h
    split at h
    · rename_i he; simp at he; subst he; simp at h; subst h; simp
    · rename_i he
      have hne : t ≠ i := by simpa using he
      obtain ⟨h1, h2⟩ := lookup_argsAt xs (i + 1) t x h
      refine ⟨by omega, ?_⟩
      rw [show t - i = (t - (i + 1)) + 1 by omega]
      simpa using h2

theorem leaves_marks (fn : Func) (tmps : Array Value) (R : Ending → World → Prop) : ∀ (l : List Nat) (w : World), l.Nodup → (∀ D ∈ l, w.heap[D]? = some (.deferred (some []))) →
    (∀ w', w'.heap.size = w.heap.size → (∀ k, k ∉ l → w'.heap[k]? = w.heap[k]?) → Quiet w w' → LeavesInM Fence.wide 0 P fn tmps R [] .returning w') →
    LeavesInM Fence.wide 0 P fn tmps R (l.map fun D => ({ target := .collected D, args := #[] } : Deferred)) .returning w := by
  intro l
  induction l with
  | nil => intro w _ _ h; exact h w rfl (fun _ _ => rfl) (Quiet.refl _)
  | cons D l ih =>
    intro w hn hD h
    have hn' := List.nodup_cons.1 hn
    have hD0 := hD D (by simp)
    refine ⟨by simp, .inl ⟨D, w.putObj D (.deferred none), rfl, run_takeDeferred hD0, ?_⟩⟩
    refine ih _ hn'.2 (fun E hE => ?_) (fun w' hs hk hq => ?_)
    · have hne : E ≠ D := fun e => hn'.1 (e ▸ hE)
      rw [World.putObj_heap_other hne]; exact hD E (by simp [hE])
    · refine h w' (hs.trans World.putObj_size) (fun k hk' => ?_) (Quiet.trans (Quiet.putObj (by rw [hD0]; simp [plainO]) (by simp [plainO]) (Array.getElem?_eq_some_iff.1 hD0).1) hq)
      simp only [List.mem_cons, not_or] at hk'
      rw [hk k hk'.2, World.putObj_heap_other hk'.1]

/-- **A function from its body.** -/
theorem a_fn {f : FuncId} {fn : Func} {c : Code} {args : List AVal} {R : AVal → View → Prop} (hf : P.funcs[f]? = some fn) (hb : fn.body = some c)
    (h : ATrip none P c (retA P fn R) ⟨argsAt 0 args, fn.ntmps⟩ V) (hn : Nat.ble args.length fn.ntmps = true) : ACalls P f args V R := by
  intro m w vals s ht
  have hlen := ht.length
  have hn' : args.length ≤ fn.ntmps := by simpa using hn
  refine callsIn_of_wp_marks (F := Fence.wide) hf hb trivial ?_
  have hT : TmpsOK m ⟨argsAt 0 args, fn.ntmps⟩ ((⟨vals⟩ : Array Value) ++ Array.replicate (fn.ntmps - (⟨vals⟩ : Array Value).size) undef) := by
    refine ⟨by simp; omega, fun t x hx => ?_⟩
    obtain ⟨_, h2⟩ := lookup_argsAt args 0 t x hx
    simp at h2
    obtain ⟨v, hv, htv⟩ := ht.get h2
    refine ⟨v, ?_, htv⟩
    rw [Array.getElem?_append_left (by simpa using (List.getElem?_eq_some_iff.1 hv).1)]
    simpa using hv
  refine wpIn_mono (h _ m _ w s hT (DefOK.nil _ _)) ?_
  have key : ∀ (a' : Act) (w' : World) (m' : Imm) (st' : ASt) (V' : View), (∃ xs V'', ARes P st' V' fn.results.toList xs ∧ V''.le V' ∧ R (oneOf xs) V'') → Sat m' V' w' → TmpsOK m' st' a'.tmps → DefOK w.heap.size V' a'.defers w' → Fr m V w m' V' w' →
      LeavesInM Fence.wide 0 P fn a'.tmps (fun e w' => ∃ m' x V' v, e = .returned v ∧ Tr m' x v ∧ R x V' ∧ Sat m' V' w' ∧ Fr m V w m' V' w') a'.defers .returning w' := by
    rintro a' w' m' st' V' ⟨xs, V'', hres, hsub, hr⟩ s' t' ⟨hB, l, hnd, hds, hl⟩ f'
    rw [hds]
    refine leaves_marks fn _ _ l w' hnd (fun D hD => (hl D hD).1) (fun w2 hsz hk hq2 => ?_)
    have hold : ∀ b, (V' b ≠ none ∨ m' b ≠ none) → w2.heap[b]? = w'.heap[b]? := by
      intro b hb
      refine hk b (fun hbl => ?_)
      obtain ⟨h1, h2, _⟩ := hl b hbl
      rcases hb with hb | hb
      · exact hb h2
      · cases hm : m' b with
        | none => exact hb hm
        | some cs => obtain ⟨_, c', T, fr, r, h3, _⟩ := s'.imm b cs hm; rw [h1] at h3; cases h3
    have s2 : Sat m' V' w2 := ⟨fun b cs hb => by rw [hold b (.inr (by rw [hb]; simp))]; exact s'.imm b cs hb, fun b o hb => by rw [hold b (.inl (by rw [hb]; simp))]; exact s'.obj b o hb⟩
    obtain ⟨vs, hvs, hrun⟩ := run_results (P := P) s2 t' hres
    have hmap : (fn.results.mapM (resOf a'.tmps)).run P w2 = .ok ⟨vs⟩ w2 := by
      rw [Array.mapM_eq_mapM_toList]
      rw [map_eq_pure_bind]
      simp only [Sem.run_bind, hrun, Result.andThen, Sem.run_pure]
    have hres' : results fn a'.tmps = (do let vs ← fn.results.mapM (resOf a'.tmps); pure (if h : vs.size = 1 then vs[0] else .tuple vs)) := by
      unfold results
      congr 1
    have hrr : (results fn a'.tmps).run P w2 = .ok (if h : (⟨vs⟩ : Array Value).size = 1 then (⟨vs⟩ : Array Value)[0] else .tuple ⟨vs⟩) w2 := by
      rw [hres', Sem.run_bind, hmap]; rfl
    refine ⟨_, hrr, m', oneOf xs, V'', _, rfl, ?_, hr, s2.sub hsub, ?_⟩
    · have hl2 := hvs.length
      match xs, vs, hvs, hl2 with
      | [], [], _, _ => simp [oneOf, Tr, TrL]
      | [x], [v], h, _ => simp only [TrL] at h; obtain ⟨_, _, he, hx, rfl⟩ := h; simp at he; subst he; simpa [oneOf] using hx
      | x :: y :: r, u :: v :: r', h, _ => simp only [oneOf, Tr]; exact ⟨_, by simp, h⟩
    · refine ⟨by rw [hsz]; exact f'.size, f'.imm, fun b hb hV => ⟨View.le_none hsub (f'.old b hb hV).1, ?_⟩, f'.quiet.trans hq2⟩
      have h2 := (f'.old b hb hV).2
      rw [hk b ?_, h2]
      intro hbl
      have := (hl b hbl).2.2
      omega
  rintro e a' w' ⟨m', st', V', q, s', t', d', f'⟩
  cases e with
  | normal => exact key a' w' m' st' V' q s' t' d' f'
  | ret => exact key a' w' m' st' V' q s' t' d' f'
  | exit id => exact q.elim
  | goto l => exact q.elim
  | panic ch => exact q.elim
  | outgrown => exact q.elim

end
end Go.AV
