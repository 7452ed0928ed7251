/- The abstract view: an appended row read as a slice that changes no more. -/
import Derived.Test.YtapelipehckbcaaAvL
namespace Go.AV
variable {ρ : Option Nat} {P : Program} {Q : AQ} {V V₁ : View}

theorem View.set_set (V : View) (b : Nat) (o o' : AObj) : (V.set b o).set b o' = V.set b o' := by
  funext i; by_cases h : i = b <;> simp [View.set, h]
theorem a_gen {st : ASt} {c : Code} (h : ∀ V', V' = V → ATrip ρ P c Q st V') : ATrip ρ P c Q st V := h V rfl
theorem a_cut1 {st : ASt} {c : Code} (K : ASt → View → Prop) (h : ATrip ρ P c (thenA K Q) st V) (k : ∀ st' V', K st' V' → Q .normal st' V') : ATrip ρ P c Q st V :=
  h.mono fun e st' V' hq => by cases e <;> first | exact k _ _ hq | exact hq
theorem Acc.set {x : AVal} {sz n : Nat} {cs : List AVal} (h : Acc V x sz n cs V₁) {b : Nat} (o : AObj) (hb : V b = none) : Acc (V.set b o) x sz n cs (V₁.set b o) := by
  rcases h with ⟨h1, h2, h3, rfl⟩ | ⟨c, cap, h1, h2, h3, h4, h5, h6⟩
  · exact .inl ⟨h1, h2, h3, rfl⟩
  · have hne : b ≠ c := by rintro rfl; rw [h5] at hb; cases hb
    refine .inr ⟨c, cap, h1, ?_, h3, h4, ?_, ?_⟩
    · rw [View.set_other _ _ (Ne.symm hne)]; exact h2
    · rw [View.set_other _ _ (Ne.symm hne)]; exact h5
    · subst h6
      funext i
      by_cases hi : i = c
      · subst hi; simp [View.drop, View.set, Ne.symm hne]
      · by_cases hi' : i = b
        · subst hi'; simp [View.drop, View.set, hi]
        · simp [View.drop, View.set, hi, hi']
theorem Acc.none {x : AVal} {sz n : Nat} {cs : List AVal} (h : Acc V x sz n cs V₁) {b : Nat} (hb : V b = none) : V₁ b = none := by
  rcases h with ⟨h1, h2, h3, rfl⟩ | ⟨c, cap, h1, h2, h3, h4, h5, h6⟩
  · exact hb
  · subst h6
    by_cases hi : b = c
    · subst hi; simp
    · simp [View.drop, hi, hb]
theorem Acc.some {x : AVal} {sz n : Nat} {cs : List AVal} (h : Acc V x sz n cs V₁) {b : Nat} {o : AObj} (hb : V₁ b = some o) : V b = some o := by
  rcases h with ⟨h1, h2, h3, rfl⟩ | ⟨c, cap, h1, h2, h3, h4, h5, h6⟩
  · exact hb
  · subst h6
    by_cases hi : b = c
    · subst hi; simp at hb
    · simpa [View.drop, hi] using hb

theorem a_acc_tree {c : Code} {t sz n N : Nat} {x : AVal} {l : List (Nat × AVal)} {els : List AVal} {cs : List AVal} (hA : Acc V x sz n cs V₁) (hcs : cs = els.flatMap AVal.cells) (hn : els.length = n)
    (hel : els.all (fun x => x.good && Nat.beq x.cells.length sz) = true) (ht : l.lookup t = some x) (h : ATrip ρ P c Q ⟨(t, .tree sz els) :: l, N⟩ V₁) : ATrip ρ P c Q ⟨l, N⟩ V := by
  subst hcs
  rcases hA with ⟨rfl, rfl, hcs, rfl⟩ | ⟨b, cap, hcap, hVb, rfl, hlen, hrow, rfl⟩
  · have : els = [] := List.length_eq_zero_iff.1 hn
    subst this
    intro B m a w s q d
    refine h B m a w s ⟨q.1, fun t' x' hx => ?_⟩ d
    simp only [List.lookup_cons] at hx
    split at hx
    · rename_i he
      simp only [beq_iff_eq] at he
      subst he
      cases hx
      obtain ⟨v, hv, hT⟩ := q.2 t' _ ht
      simp only [Tr] at hT
      subst hT
      exact ⟨_, hv, by simp [Tr]⟩
    · exact q.2 t' x' hx
  · refine a_freeze hrow (st' := ⟨(t, .tree sz els) :: l, N⟩) rfl (fun m us hm hT t' x' hx => ?_) h
    simp only [List.lookup_cons] at hx
    split at hx
    · rename_i he
      simp only [beq_iff_eq] at he
      subst he
      cases hx
      refine .inr ⟨_, ht, fun v hv => ?_⟩
      simp only [Tr] at hv ⊢
      subst hv hn
      refine ⟨_, cap, rfl, hcap, .inr ⟨b, 0, us, rfl, hm, ?_⟩⟩
      have := TrE.of_cells hT hel []
      simpa using this
    · exact .inl hx
#print axioms a_acc_tree
end Go.AV
