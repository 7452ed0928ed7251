/- Two new blocks in any order; a memory's plain laws. -/
import Derived.Test.YtapelipehckbcaaMkC
set_option linter.unusedVariables false
set_option linter.unusedSimpArgs false
namespace Go.AV
variable {V V₀ V₁ W : View}
structure Two (V : View) (z1 s1 z2 s2 : AObj) (b : Nat × Nat) (p q r t : Bool) (W : View) : Prop where
  eq : W = (if q = true then (if p = true then V.set b.1 (if r = true then s1 else z1) else V).set b.2 (if t = true then s2 else z2) else if p = true then V.set b.1 (if r = true then s1 else z1) else V)
  n1 : p = true → V b.1 = none
  n2 : q = true → V b.2 = none
  ne : p = true → q = true → b.1 ≠ b.2
  rp : r = true → p = true
  tq : t = true → q = true
variable {z1 s1 z2 s2 : AObj} {b : Nat × Nat} {p q r t : Bool}
theorem two_none : Two V z1 s1 z2 s2 b false false false false V := ⟨rfl, (fun h => by cases h), (fun h => by cases h), (fun h => by cases h), (fun h => by cases h), (fun h => by cases h)⟩
theorem View.set_comm (V : View) {a b : Nat} (x y : AObj) (h : a ≠ b) : (V.set a x).set b y = (V.set b y).set a x := by
  funext k; simp only [View.set]; by_cases h1 : k = b <;> by_cases h2 : k = a <;> simp_all
theorem two_le (h : Two V z1 s1 z2 s2 b p q r t W) : V.le W := by
  rw [h.eq]
  cases q <;> cases p <;> simp only [if_true, if_false, Bool.false_eq_true]
  · exact View.le_refl _
  · exact View.le_self_set (h.n1 rfl)
  · exact View.le_self_set (h.n2 rfl)
  · refine View.le_set (View.le_self_set (h.n1 rfl)) (h.n2 rfl)
theorem two_p (h : Two V z1 s1 z2 s2 b false q r t W) {x : Nat} (hx : W x = none) : Two V z1 s1 z2 s2 (x, b.2) true q r t (W.set x z1) := by
  have hr : r = false := by cases hr : r with
    | false => rfl
    | true => have := h.rp hr; cases this
  subst hr
  have hxV : V x = none := View.le_none (two_le h) hx
  have hne : q = true → x ≠ b.2 := by
    intro hq e
    rw [h.eq, hq] at hx
    simp [e] at hx
  refine ⟨?_, fun _ => hxV, h.n2, fun _ hq => hne hq, (fun h => by cases h), h.tq⟩
  have he := h.eq
  cases q
  · simp at he ⊢; rw [he]
  · simp at he ⊢; rw [he]; exact View.set_comm _ _ _ (hne rfl).symm
theorem two_q (h : Two V z1 s1 z2 s2 b p false r t W) {x : Nat} (hx : W x = none) : Two V z1 s1 z2 s2 (b.1, x) p true r t (W.set x z2) := by
  have ht : t = false := by cases ht : t with
    | false => rfl
    | true => have := h.tq ht; cases this
  subst ht
  have hxV : V x = none := View.le_none (two_le h) hx
  have hne : p = true → b.1 ≠ x := by
    intro hp e
    rw [h.eq, hp] at hx
    simp [e] at hx
  refine ⟨?_, h.n1, fun _ => hxV, fun hp _ => hne hp, h.rp, (fun h => by cases h)⟩
  have he := h.eq
  simp at he ⊢; rw [he]
theorem two_r (h : Two V z1 s1 z2 s2 b true q false t W) : W b.1 = some z1 ∧ Two V z1 s1 z2 s2 b true q true t (W.set b.1 s1) := by
  have he := h.eq
  cases q
  · simp at he
    refine ⟨by rw [he]; simp, ⟨by simp; rw [he, View.set_set], h.n1, h.n2, h.ne, fun _ => rfl, h.tq⟩⟩
  · have hne := h.ne rfl rfl
    simp at he
    refine ⟨by rw [he, View.set_other _ _ hne]; simp, ⟨by simp; rw [he, View.set_comm _ _ _ hne.symm, View.set_set], h.n1, h.n2, h.ne, fun _ => rfl, h.tq⟩⟩
theorem two_t (h : Two V z1 s1 z2 s2 b p true r false W) : W b.2 = some z2 ∧ Two V z1 s1 z2 s2 b p true r true (W.set b.2 s2) := by
  have he := h.eq
  simp at he
  exact ⟨by rw [he]; simp, ⟨by simp; rw [he, View.set_set], h.n1, h.n2, h.ne, h.rp, fun _ => rfl⟩⟩

theorem Mem.rebase {b : Nat} {n : Nat → Nat} {c base base' : Ce} (h : Mem V b n c base [] V₀) : Mem V b n c base' [] V₀ := by
  obtain ⟨xc, xm, L1, L2, h1, ⟨ms, Lm, m1, m2, rfl⟩, hO⟩ := h
  have : ms = [] := List.length_eq_zero_iff.1 (by simpa using m1)
  subst this
  exact ⟨xc, xm, L1, _, h1, ⟨[], Lm, m1, m2, rfl⟩, hO⟩
theorem Mem.more {b : Nat} {n : Nat → Nat} {c base : Ce} {ss : List Ce} {V' : View} (h : Mem V b n c base ss V₀) (hV : V.le V') : Mem V' b n c base ss V₀ := by
  obtain ⟨xc, xm, L1, L2, h1, h2, hO⟩ := h
  exact ⟨xc, xm, L1, L2, h1, h2, hO.grow hV⟩
theorem rowM_get {ms : List Nat} {bt : Nat} {i : Int} (h : i = (ms.length : Int)) : rdc true 1 ((ms.reverse ++ [bt]).map mpv) (0 + i.toNat * 1) = some (.agg [mpv bt]) := by
  subst h
  have e1 : (0 + ((ms.length : Nat) : Int).toNat * 1) = ms.length := by omega
  rw [e1]
  have e2 : ((ms.reverse ++ [bt]).map mpv).drop ms.length = [mpv bt] := by
    rw [List.map_append, List.drop_left' (by simp)]; rfl
  simp [rdc, e2]
#print axioms two_t
#print axioms rowM_get
end Go.AV
