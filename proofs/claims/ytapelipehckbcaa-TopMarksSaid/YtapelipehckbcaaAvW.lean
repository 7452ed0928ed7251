/- The abstract view: maps.Clone, interfaces about maps, parts of slices of one's own. -/
import Derived.Test.YtapelipehckbcaaAvU
import Derived.Laws.Externs
namespace Go.AV
set_option linter.unusedVariables false
set_option linter.unusedSimpArgs false

variable {ρ : Option Nat} {P : Program} {Q : AQ} {st : ASt} {V V₀ V₁ : View} {o : Oper} {ops : Array Oper} {rest : List Oper}
  {d : Option Tmp} {ty : TypeId} {pos : String} {aft : Array Edge} {gd : Option (Nat × Bool)}

theorem s_mkiface {t kt et : TypeId} {y : Operand} {u : Value} (ht : P.underlying t = some (.map kt et)) (hy : Ev st y (.v u)) :
    OpS ρ P ⟨d, .makeInterface t y, ty, pos, aft, gd⟩ st V (One (.v (.iface t u)) V) :=
  opS_pure (by intro c h; cases h) fun m a w s q => by
    have h1 : a.eval y = u := by simpa [Tr] using hy m a q
    refine ⟨.iface t u, w, ?_, rfl, by simp [Tr]⟩
    simp [execOp, h1, Instr.makeInterface, run_underlying ht, Sem.run_bind, Result.andThen]
theorem s_tassert {t xt kt et : TypeId} {y : Operand} {u : Value} (ht : P.underlying t = some (.map kt et)) (hy : Ev st y (.v (.iface t u))) :
    OpS ρ P ⟨d, .typeAssert y xt t false, ty, pos, aft, gd⟩ st V (One (.v u) V) :=
  opS_pure (by intro c h; cases h) fun m a w s q => by
    have h1 : a.eval y = .iface t u := by simpa [Tr] using hy m a q
    refine ⟨u, w, ?_, rfl, by simp [Tr]⟩
    have hr : (Instr.typeAssert (.iface t u) xt t false).run P w = .ok u w := by simp [Instr.typeAssert, run_underlying ht, go_sem, Result.andThen]
    simp [execOp, h1, hr, Sem.run_bind, Result.andThen]
theorem run_mclone {w : World} {r : Nat} {es : Array MapEntry} {clock : Nat} (t : TypeId) (hb : w.heap[r]? = some (.map es clock)) :
    (Extern.MapsClone.clone #[.iface t (.map (some r))]).run P w = .ok (.iface t (.map (some w.heap.size))) (w.alloc (.map es clock)) := by
  have e : Extern.MapsClone.clone #[.iface t (.map (some r))] = (getObj r >>= fun o => match o with
      | .map entries clock => (newObj (.map entries clock) >>= fun n => pure (.iface t (.map (some n))))
      | _ => stuck "maps.clone: a map expected") := rfl
  rw [e]
  simp [MapKept.run_getObj_map hb, Result.andThen, go_sem]
theorem s_mclone {f : FuncId} {fn : Func} {t : TypeId} {y : Operand} {b : Nat} {l : List (Value × AVal)} {ats : Array TypeId} (hf : P.funcs[f]? = some fn) (hname : (fn.name == "runtime.NumGoroutine") = false)
    (hbd : fn.body.isNone = true) (hn : Extern.findNext fn = none) (he : Extern.find fn = some Extern.MapsClone.clone) (hb : V b = some (.mp l)) (hy : Ev st y (.v (.iface t (.map (some b))))) :
    OpS ρ P ⟨d, .call ⟨.value (.func f), #[y], ats⟩, ty, pos, aft, gd⟩ st V (fun x V' => ∃ b', V b' = none ∧ x = .v (.iface t (.map (some b'))) ∧ V' = V.set b' (.mp l)) :=
  opS_of_run (by intro c h; cases h) fun m a w s q => by
    have h1 : a.eval y = .iface t (.map (some b)) := by simpa [Tr] using hy m a q
    obtain ⟨o', ho, es, clock, l', rfl, hr⟩ := s.obj b _ hb
    have hok : AObj.OK m (.mp l) (.map es clock) := ⟨es, clock, l', rfl, hr⟩
    obtain ⟨s', f'⟩ := s.alloc hok
    refine ⟨.value (.iface t (.map (some w.heap.size))), _, m, _, _, .iface t (.map (some w.heap.size)), ?_, .inl rfl, ⟨w.heap.size, s.fresh, rfl, rfl⟩, by simp [Tr], s', f'⟩
    have hc := run_callFunc_extern hf hname hbd hn he #[.iface t (.map (some b))] w
    rw [run_mclone t ho] at hc
    have e0 : a.eval (.func f) = .func (.func f) #[] #[] := rfl
    simp [execOp, resolve, invoke, h1, e0, Deferred.ofValue, Sem.run_bind, hc, Result.andThen]
/-- The first elements of a slice of one's own. -/
theorem s_sliceA {t e : TypeId} {g : Bool} {sz n h : Nat} {y : Operand} {lo hi : Option Operand} {x : AVal} {cs : List AVal} (ht : sliOf P t = some (e, g, sz)) (hy : Ev st y x) (hA : Acc V x sz n cs V₀)
    (hlo : Bnd st lo 0 0) (hhi : Bnd st hi n h) (h2 : h ≤ n) :
    OpS ρ P ⟨d, .slice t y lo hi none, ty, pos, aft, gd⟩ st V (fun x' V' => Acc V' x' sz h (cs.take (h * sz)) V₀) :=
  opS_of_run (by intro c h; cases h) fun m a w s q => by
    obtain ⟨hu, hs⟩ := sliOf_info ht
    rcases hA with ⟨rfl, rfl, rfl, rfl⟩ | ⟨b, cap, h1, h0, rfl, h3, h4, h5⟩
    · have hv : a.eval y = .slice none 0 0 := by simpa [Tr] using hy m a q
      have h0 : h = 0 := by omega
      subst h0
      have hb := run_sliceBounds (P := P) (w := w) (isS := true) (cap := 0) q hlo hhi (Nat.le_refl _) (Nat.le_refl _)
      refine ⟨.value (.slice none 0 0), w, m, V, _, _, ?_, .inl rfl, .inl ⟨rfl, rfl, by simp, rfl⟩, by simp [Tr], s, Fr.refl _ _ _⟩
      simp [execOp, hv, Instr.sliceAt, Instr.slice, run_underlying hu, Sem.run_bind, Result.andThen, hb, (run_isAgg_shp hs w).2]
    · have hv : a.eval y = .slice (some ⟨b, 0, none⟩) n cap := by simpa [Tr] using hy m a q
      have hb := run_sliceBounds (P := P) (w := w) (isS := true) (cap := cap) q hlo hhi (Nat.zero_le _) (by omega : h ≤ cap)
      obtain ⟨o', ho, c, T, rfl, ⟨us, r, hc, htl⟩, hN⟩ := s.obj b _ h4
      have hlt := (Array.getElem?_eq_some_iff.1 ho).1
      have hle : h * sz ≤ n * sz := Nat.mul_le_mul_right _ h2
      have hok : AObj.OK m (.rown (cs.take (h * sz)) (some (cap * sz))) (.cells c T (0, 0)) :=
        ⟨c, T, rfl, ⟨us.take (h * sz), us.drop (h * sz) ++ r, by rw [hc]; simp [← List.append_assoc], htl.take _⟩, hN⟩
      have s' : Sat m (V.set b (.rown (cs.take (h * sz)) (some (cap * sz)))) w := ⟨fun k cs hk => by
          obtain ⟨h1, h2⟩ := s.imm k cs hk
          have hne : k ≠ b := by rintro rfl; rw [h4] at h1; cases h1
          exact ⟨by rw [View.set_other _ _ hne]; exact h1, h2⟩, fun k x hk => by
          by_cases e : k = b
          · subst e; simp at hk; subst hk; exact ⟨_, ho, hok⟩
          · rw [View.set_other _ _ e] at hk; exact s.obj k x hk⟩
      have f : Fr m V w m (V.set b (.rown (cs.take (h * sz)) (some (cap * sz)))) w := ⟨Nat.le_refl _, Imm.le_refl _, fun k hk hV => ⟨by
          have hne : k ≠ b := by rintro rfl; rw [h4] at hV; cases hV
          rw [View.set_other _ _ hne]; exact hV, rfl⟩, Quiet.refl _⟩
      refine ⟨.value (.slice (some ⟨b, 0, none⟩) h cap), w, m, _, .v (.slice (some ⟨b, 0, none⟩) h cap), _, ?_, .inl rfl, .inr ⟨b, cap, by omega, h0, rfl, ?_, by simp, ?_⟩, by simp [Tr], s', f⟩
      · simp [execOp, hv, Instr.sliceAt, Instr.slice, run_underlying hu, Sem.run_bind, Result.andThen, hb, (run_isAgg_shp hs w).2, addr_add]
      · rw [List.length_take, h3]; exact Nat.min_eq_left hle
      · rw [View.drop_set]; exact h5
#print axioms s_mclone
#print axioms s_sliceA
#print axioms s_tassert
end Go.AV
