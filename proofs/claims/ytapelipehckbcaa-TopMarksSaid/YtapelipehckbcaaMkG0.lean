/- Cells with marks: what a walk over a map's entries has done so far, in plain Lean. -/
import Derived.Test.YtapelipehckbcaaMkE
set_option linter.unusedVariables false
set_option linter.unusedSimpArgs false
namespace Go.AV
variable {V V₀ V₁ W : View}
/-- Nothing stands beyond the last cell. -/
def Zr (n : Nat → Nat) (c : Ce) : Prop := ∀ o i, o < 3 → n o ≤ i → c o i = 0
structure Prog (es : Array MapEntry) (seen : Array Nat) (c s g : Ce) : Prop where
  key : ∀ e ∈ es.toList, ∀ o i, e.key = K2 o i → g o i = if seen.contains e.born = true then s o i else c o i
  non : ∀ o i, (∀ e ∈ es.toList, e.key ≠ K2 o i) → g o i = c o i
theorem Ents.keynd {l : List (Value × AVal)} {es : Array MapEntry} {clock : Nat} (h : Ents l es clock) : (es.toList.map (·.key)).Nodup := by
  have h1 := (h.pm.map Prod.fst).nodup_iff.2 h.nd
  simpa [Function.comp_def] using h1
theorem nodup_inj {α β : Type} {f : α → β} : ∀ {l : List α}, (l.map f).Nodup → ∀ {x y : α}, x ∈ l → y ∈ l → f x = f y → x = y
  | a :: l, h, x, y, hx, hy, he => by
    simp only [List.map_cons, List.nodup_cons] at h
    rcases List.mem_cons.1 hx with e1 | h1 <;> rcases List.mem_cons.1 hy with e2 | h2
    · rw [e1, e2]
    · exact absurd (List.mem_map.2 ⟨y, h2, by rw [← he, e1]⟩) h.1
    · exact absurd (List.mem_map.2 ⟨x, h1, by rw [he, e2]⟩) h.1
    · exact nodup_inj h.2 h1 h2 he
theorem Ents.ent {s c : Ce} {es : Array MapEntry} {clock : Nat} (h : Ents (dif s c) es clock) {e : MapEntry} (he : e ∈ es.toList) : ∃ o i, o < 3 ∧ i < 6 ∧ s o i ≠ c o i ∧ e.key = K2 o i ∧ e.val = .int .i64 (s o i) := by
  have := h.pm.mem_iff.1 (List.mem_map.2 ⟨e, he, rfl⟩ : (e.key, AVal.v e.val) ∈ _)
  obtain ⟨o, i, h1, h2, h3, h4, h5⟩ := dif_mem.1 this
  exact ⟨o, i, h1, h2, h3, h4, AVal.v.inj h5⟩
theorem Ents.has {s c : Ce} {es : Array MapEntry} {clock : Nat} (h : Ents (dif s c) es clock) {o i : Nat} (ho : o < 3) (hi : i < 6) (hne : s o i ≠ c o i) : ∃ e ∈ es.toList, e.key = K2 o i := by
  have := h.pm.mem_iff.2 (dif_in ho hi hne)
  obtain ⟨e, he, h2⟩ := List.mem_map.1 this
  exact ⟨e, he, (Prod.mk.inj h2).1⟩
theorem Prog.start {es : Array MapEntry} {c s : Ce} : Prog es #[] c s c := ⟨fun e _ o i _ => by simp, fun _ _ _ => rfl⟩
theorem Prog.step {l : List (Value × AVal)} {es : Array MapEntry} {clock : Nat} (hE : Ents l es clock) {seen : Array Nat} {c s g : Ce} (h : Prog es seen c s g) {e : MapEntry} (he : e ∈ (leftOf es seen).toList) {o i : Nat} (hk : e.key = K2 o i) :
    Prog es (seen.push e.born) c s (g.upd o i (s o i)) := by
  obtain ⟨hm, hs⟩ := mem_left he
  refine ⟨fun e' he' o' i' hk' => ?_, fun o' i' hn => ?_⟩
  · by_cases hoi : o' = o ∧ i' = i
    · obtain ⟨rfl, rfl⟩ := hoi
      have : e' = e := nodup_inj hE.keynd he' hm (hk'.trans hk.symm)
      subst this
      rw [Ce.upd_same, contains_push]; simp
    · rw [Ce.upd_other _ _ hoi, h.key e' he' o' i' hk', contains_push]
      have : (e'.born == e.born) = false := by
        rw [beq_eq_false_iff_ne]
        intro hb
        have := nodup_inj hE.bn he' hm hb
        subst this
        exact hoi (K2_inj (hk'.symm.trans hk))
      simp [this]
  · have hoi : ¬ (o' = o ∧ i' = i) := by
      rintro ⟨rfl, rfl⟩; exact hn e hm hk
    rw [Ce.upd_other _ _ hoi, h.non o' i' hn]
theorem Prog.done {es : Array MapEntry} {seen : Array Nat} {c s g : Ce} (h : Prog es seen c s g) (h0 : (leftOf es seen).size = 0) (hh : ∀ o i, o < 3 → i < 6 → s o i ≠ c o i → ∃ e ∈ es.toList, e.key = K2 o i) :
    ∀ o i, o < 3 → i < 6 → g o i = s o i := by
  intro o i ho hi
  by_cases hx : ∃ e ∈ es.toList, e.key = K2 o i
  · obtain ⟨e, he, hk⟩ := hx
    rw [h.key e he o i hk, all_seen es seen h0 e he]; simp
  · rw [h.non o i (fun e he hk => hx ⟨e, he, hk⟩)]
    exact (Classical.byContradiction fun hne => hx (hh o i ho hi (fun e => hne e.symm)))
/-- What stands where a step is to be made. -/
theorem Prog.now {es : Array MapEntry} {seen : Array Nat} {c s g : Ce} (h : Prog es seen c s g) {e : MapEntry} (he : e ∈ (leftOf es seen).toList) {o i : Nat} (hk : e.key = K2 o i) : g o i = c o i := by
  obtain ⟨hm, hs⟩ := mem_left he
  rw [h.key e hm o i hk, hs]; simp
theorem Mem.agree {b : Nat} {n : Nat → Nat} {c c' base : Ce} {ss : List Ce} (h : Mem V b n c base ss V₀) (hc : ∀ o i, o < 3 → i < n o → c o i = c' o i) : Mem V b n c' base ss V₀ := by
  obtain ⟨xc, xm, L1, L2, ⟨X, Lc, LL, h1, h2, rfl⟩, h3, hO⟩ := h
  refine ⟨xc, xm, _, L2, ⟨X, Lc, LL, h1, fun o ho => ?_, rfl⟩, h3, hO⟩
  have : rowV c o (n o) = rowV c' o (n o) := by
    simp only [rowV]
    apply List.map_congr_left
    intro i hi
    rw [hc o i ho (List.mem_range.1 hi)]
  rw [← this]; exact h2 o ho
theorem dif_agree {s c c' : Ce} (hc : ∀ o i, o < 3 → i < 6 → c o i = c' o i) : dif s c = dif s c' := by
  simp only [dif]
  apply fm_congr
  rintro ⟨o, i⟩ hp
  obtain ⟨h1, h2⟩ := mem18.1 hp
  simp only [ent, hc o i h1 h2]
theorem Mem.agreeb {b : Nat} {n : Nat → Nat} {c base base' : Ce} {ss : List Ce} (h : Mem V b n c base ss V₀) (hc : ∀ o i, o < 3 → i < 6 → base o i = base' o i) : Mem V b n c base' ss V₀ := by
  obtain ⟨xc, xm, L1, L2, h1, ⟨ms, Lm, m1, m2, rfl⟩, hO⟩ := h
  have : mapsR base ms ss = mapsR base' ms ss := by
    cases ms <;> cases ss <;> simp only [mapsR]
    rw [dif_agree hc]
  rw [this] at hO
  exact ⟨xc, xm, L1, _, h1, ⟨ms, Lm, m1, m2, rfl⟩, hO⟩
theorem next_cases {es : Array MapEntry} {seen : Array Nat} {x : AVal} {V V' : View} {i b clock : Nat}
    (h : ((leftOf es seen).size = 0 ∧ x = .tuple [.v (.bool false)] ∧ V' = V) ∨
      ∃ e ∈ (leftOf es seen).toList, x = .tuple [.v (.bool true), .v e.key, .v e.val] ∧ V' = V.set i (.raw (.mapIter (some b) clock (seen.push e.born) clock))) :
    ∃ (g : Bool) (vs : List AVal), x = .tuple (.v (.bool g) :: vs) ∧ ((g = false ∧ (leftOf es seen).size = 0 ∧ V' = V) ∨ (g = true ∧ ∃ e ∈ (leftOf es seen).toList, V' = V.set i (.raw (.mapIter (some b) clock (seen.push e.born) clock)))) := by
  rcases h with ⟨h1, h2, h3⟩ | ⟨e, h1, h2, h3⟩
  · exact ⟨false, _, h2, .inl ⟨rfl, h1, h3⟩⟩
  · exact ⟨true, _, h2, .inr ⟨rfl, e, h1, h3⟩⟩
#print axioms Prog.step
#print axioms Prog.done
end Go.AV
