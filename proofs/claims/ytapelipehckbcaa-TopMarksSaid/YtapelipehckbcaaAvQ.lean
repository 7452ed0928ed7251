/- The abstract view: a slice of one's own that lies in a row, frozen there. -/
import Derived.Test.YtapelipehckbcaaAvP
namespace Go.AV
set_option linter.unusedVariables false
set_option linter.unusedSimpArgs false

variable {ρ : Option Nat} {P : Program} {Q : AQ} {st : ASt} {V : View} {o : Oper} {ops : Array Oper} {rest : List Oper}
  {d : Option Tmp} {ty : TypeId} {pos : String} {aft : Array Edge} {gd : Option (Nat × Bool)}

theorem TrL_mid {m : Imm} {x y : AVal} {post : List AVal} (hxy : ∀ v, Tr m x v → Tr m y v) : ∀ {pre : List AVal} {us : List Value}, TrL m (pre ++ x :: post) us → TrL m (pre ++ y :: post) us
  | [], us, h => by
    simp only [List.nil_append, TrL] at h ⊢
    obtain ⟨v, r, e, hx, k⟩ := h
    exact ⟨v, r, e, hxy v hx, k⟩
  | z :: pre, us, h => by
    simp only [List.cons_append, TrL] at h ⊢
    obtain ⟨v, r, e, hx, k⟩ := h
    exact ⟨v, r, e, hx, TrL_mid hxy k⟩
theorem Sat.rerow {m : Imm} {w : World} (s : Sat m V w) {b : Nat} {cs cs' : List AVal} {N : Option Nat} (hb : V b = some (.rown cs N)) (hT : ∀ us, TrL m cs us → TrL m cs' us) :
    Sat m (V.set b (.rown cs' N)) w ∧ Fr m V w m (V.set b (.rown cs' N)) w := by
  have hne : ∀ k, V k = none → k ≠ b := by rintro k hk rfl; rw [hb] at hk; cases hk
  refine ⟨⟨fun k us hk => ?_, fun k o hk => ?_⟩, Nat.le_refl _, Imm.le_refl _, fun k _ hV => ⟨by rw [View.set_other _ _ (hne k hV)]; exact hV, rfl⟩, Quiet.refl _⟩
  · obtain ⟨h1, h2⟩ := s.imm k us hk
    exact ⟨by rw [View.set_other _ _ (hne k h1)]; exact h1, h2⟩
  · by_cases e : k = b
    · subst e
      simp only [View.set_same, Option.some.injEq] at hk
      subst hk
      obtain ⟨o', ho, c, T, rfl, ⟨us, r, hc, ht⟩, hN⟩ := s.obj k _ hb
      exact ⟨_, ho, c, T, rfl, ⟨us, r, hc, hT us ht⟩, hN⟩
    · rw [View.set_other _ _ e] at hk
      exact s.obj k o hk
theorem accTree {m : Imm} {w : World} {x : AVal} {sz n : Nat} {cs els : List AVal} {V₀ : View} (hA : Acc V x sz n cs V₀) (hcs : cs = els.flatMap AVal.cells) (hn : els.length = n)
    (hel : els.all (fun x => x.good && Nat.beq x.cells.length sz) = true) (s : Sat m V w) : ∃ m', Sat m' V₀ w ∧ Fr m V w m' V₀ w ∧ ∀ v, Tr m' x v → Tr m' (.tree sz els) v := by
  obtain ⟨u, hu⟩ : ∃ u, x = .v u := by
    rcases hA with ⟨h, _⟩ | ⟨b, cap, _, _, h, _⟩
    · exact ⟨_, h⟩
    · exact ⟨_, h⟩
  subst hu
  obtain ⟨m', s', f, ht⟩ := accFreeze hA hcs hn hel s (v := u) (by simp [Tr])
  exact ⟨m', s', f, fun v hv => by simp only [Tr] at hv; subst hv; exact ht⟩
/-- A slice of one's own that lies in a row never changes from here on. -/
theorem a_acc_row {c : Code} {sz n b : Nat} {x : AVal} {cs els pre post : List AVal} {N : Option Nat} {V₀ : View} (hA : Acc V x sz n cs V₀) (hcs : cs = els.flatMap AVal.cells) (hn : els.length = n)
    (hel : els.all (fun x => x.good && Nat.beq x.cells.length sz) = true) (hb : V₀ b = some (.rown (pre ++ x :: post) N))
    (h : ATrip ρ P c Q st (V₀.set b (.rown (pre ++ .tree sz els :: post) N))) : ATrip ρ P c Q st V := by
  intro B m a w s t d
  obtain ⟨m', s', f, hx⟩ := accTree hA hcs hn hel s
  obtain ⟨s2, f2⟩ := s'.rerow hb (fun us hu => TrL_mid hx hu)
  exact wpIn_mono (h B m' a w s2 (t.mono f.imm) (d.fr (f.trans f2))) (conc_later (f.trans f2))
/-- And is read as such at once. -/
theorem a_acc_row1 {c : Code} {sz n b : Nat} {x : AVal} {cs els : List AVal} {N : Option Nat} {V₀ : View} (hA : Acc V x sz n cs V₀) (hcs : cs = els.flatMap AVal.cells) (hn : els.length = n)
    (hel : els.all (fun x => x.good && Nat.beq x.cells.length sz) = true) (hb : V₀ b = some (.rown [x] N))
    (h : ATrip ρ P c Q st (V₀.set b (.rown [.tree sz els] N))) : ATrip ρ P c Q st V := a_acc_row (pre := []) (post := []) hA hcs hn hel hb h
/-- What else one owns is dropped. -/
theorem accDrop {x : AVal} {sz n : Nat} {cs : List AVal} {V₁ : View} (h : Acc V x sz n cs V₁) {b : Nat} {o' : AObj} (hb : V₁ b = some o') : Acc (V.drop b) x sz n cs (V₁.drop b) := by
  rcases h with ⟨h1, h2, h3, rfl⟩ | ⟨c, cap, h1, h0, h2, h3, h4, rfl⟩
  · exact .inl ⟨h1, h2, h3, rfl⟩
  · have hne : b ≠ c := by rintro rfl; simp at hb
    refine .inr ⟨c, cap, h1, by rw [View.drop_other _ hne.symm]; exact h0, h2, h3, by rw [View.drop_other _ hne.symm]; exact h4, ?_⟩
    funext i
    by_cases hi : i = b <;> by_cases hi' : i = c <;> simp [View.drop, hi, hi']
theorem src_one {y : Operand} {sz : Nat} {x : AVal} (hy : Ev st y (.tree sz [x])) (hg : x.good = true) (hl : x.cells.length = sz) : Src P st V y sz 1 x.cells := by
  have := src_tree (P := P) (V := V) hy (by simp [hg, hl])
  simpa using this
theorem accVal {x : AVal} {sz n : Nat} {cs : List AVal} {V₁ : View} (h : Acc V x sz n cs V₁) : ∃ u : Value, x = .v u ∧ u.oneCell' = true := by
  rcases h with ⟨rfl, _⟩ | ⟨c, cap, h1, h0, rfl, _⟩ <;> exact ⟨_, rfl, rfl⟩
theorem View.one_le {b : Nat} {o : AObj} (h : V b = some o) : View.le (View.set (fun _ => none) b o) V := by
  intro k x hk
  by_cases e : k = b
  · subst e; simp only [View.set_same, Option.some.injEq] at hk; rw [← hk]; exact h
  · rw [View.set_other _ _ e] at hk; cases hk
theorem wrcAll {cs ys : List AVal} (h : ys.length = cs.length) : wrc cs 0 ys = ys := by simp [wrc, h]
/-- A function that only looks, called with what one owns. -/
theorem ACalls.peek {f : FuncId} {args args' : List AVal} {x : AVal} {V₁ : View} (h : ACalls P f args (fun _ => none) (One x fun _ => none)) (hx : ∀ m m' v, Tr m x v → Tr m' x v)
    (ha : ∀ m w, Sat m V w → ∃ m₁, Sat m₁ V₁ w ∧ ∀ vals, TrL m args' vals → TrL m₁ args vals) : ACalls P f args' V (One x V) := by
  intro m w vals s ht
  obtain ⟨m₁, s₁, ha⟩ := ha m w s
  have s0 : Sat m₁ (fun _ => none) w := s₁.sub (fun b o hb => by cases hb)
  refine CallsIn.mono (h m₁ w vals s0 (ha vals ht)) ?_
  rintro e w' ⟨m', x', V', v, rfl, hv, ⟨rfl, rfl⟩, s', f'⟩
  have hold : ∀ b, b < w.heap.size → w'.heap[b]? = w.heap[b]? := fun b hb => (f'.old b hb rfl).2
  refine ⟨m, x', V, v, rfl, hx _ _ _ hv, ⟨rfl, rfl⟩, ⟨fun b cs hb => ?_, fun b o hb => ?_⟩, ⟨f'.size, Imm.le_refl _, fun b hb hV => ⟨hV, hold b hb⟩, f'.quiet⟩⟩
  · obtain ⟨h1, c, T, fr, r, h2, h3⟩ := s.imm b cs hb
    exact ⟨h1, c, T, fr, r, by rw [hold b (s.lt_imm hb)]; exact h2, h3⟩
  · obtain ⟨o', h1, h2⟩ := s.obj b o hb
    exact ⟨o', by rw [hold b (s.lt_obj hb)]; exact h1, h2⟩
/-- The same, for a slice of one's own. -/
theorem ACalls.peekA {f : FuncId} {x y : AVal} {sz n : Nat} {cs els : List AVal} {V₀ : View} (h : ACalls P f [.tree sz els] (fun _ => none) (One x fun _ => none)) (hx : ∀ m m' v, Tr m x v → Tr m' x v)
    (hA : Acc V y sz n cs V₀) (hcs : cs = els.flatMap AVal.cells) (hn : els.length = n) (hel : els.all (fun x => x.good && Nat.beq x.cells.length sz) = true) : ACalls P f [y] V (One x V) :=
  ACalls.peek (V₁ := V₀) h hx fun m w s => by
    obtain ⟨u, hu, _⟩ := accVal hA
    subst hu
    obtain ⟨m', s', f, ht⟩ := accFreeze hA hcs hn hel s (v := u) (by simp [Tr])
    refine ⟨m', s', fun vals hv => ?_⟩
    simp only [TrL] at hv ⊢
    obtain ⟨v, r, rfl, h1, rfl⟩ := hv
    simp only [Tr] at h1
    subst h1
    exact ⟨v, [], rfl, ht, rfl⟩
theorem exact2 {a b : Value} (m m' : Imm) (v : Value) (h : Tr m (.tuple [.v a, .v b]) v) : Tr m' (.tuple [.v a, .v b]) v := by simpa [Tr, TrL] using h
theorem exact1 {a : Value} (m m' : Imm) (v : Value) (h : Tr m (.v a) v) : Tr m' (.v a) v := by simpa [Tr] using h
#print axioms ACalls.peekA
#print axioms a_acc_row1
end Go.AV
