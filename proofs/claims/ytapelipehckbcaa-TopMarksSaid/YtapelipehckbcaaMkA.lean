/- Cells with marks: what the maps hold, in plain Lean. -/
import Derived.Test.YtapelipehckbcaaAvW
namespace Go.AV
set_option linter.unusedVariables false
set_option linter.unusedSimpArgs false

/-- What stands in each cell: owner (from 0), index. -/
abbrev Ce := Nat → Nat → Int
def Ce.upd (c : Ce) (o i : Nat) (v : Int) : Ce := fun a b => if a = o ∧ b = i then v else c a b
theorem Ce.upd_same (c : Ce) (o i : Nat) (v : Int) : c.upd o i v o i = v := by simp [Ce.upd]
theorem Ce.upd_other (c : Ce) {o i a b : Nat} (v : Int) (h : ¬ (a = o ∧ b = i)) : c.upd o i v a b = c a b := by simp [Ce.upd, h]

def cells18 : List (Nat × Nat) := [(0,0),(0,1),(0,2),(0,3),(0,4),(0,5),(1,0),(1,1),(1,2),(1,3),(1,4),(1,5),(2,0),(2,1),(2,2),(2,3),(2,4),(2,5)]
theorem cells18_nd : cells18.Nodup := by decide
theorem mem18 {o i : Nat} : (o, i) ∈ cells18 ↔ o < 3 ∧ i < 6 := by
  constructor
  · intro h; simp [cells18] at h; omega
  · rintro ⟨h1, h2⟩
    have e1 : o = 0 ∨ o = 1 ∨ o = 2 := by omega
    have e2 : i = 0 ∨ i = 1 ∨ i = 2 ∨ i = 3 ∨ i = 4 ∨ i = 5 := by omega
    rcases e1 with rfl | rfl | rfl <;> rcases e2 with rfl | rfl | rfl | rfl | rfl | rfl <;> simp [cells18]

abbrev kv (o i : Nat) : List Value := [.int .i64 ((o + 1 : Nat) : Int), .int .i64 (i : Int)]
abbrev K2 (o i : Nat) : Value := .agg ⟨kv o i⟩
theorem K2_inj {o i o' i' : Nat} (h : K2 o i = K2 o' i') : o = o' ∧ i = i' := by
  simp [K2, kv] at h
  omega
def ent (s c : Ce) (p : Nat × Nat) : Option (Value × AVal) := if s p.1 p.2 ≠ c p.1 p.2 then some (K2 p.1 p.2, .v (.int .i64 (s p.1 p.2))) else none
/-- A mark's map: what stood there, where another thing stands now. -/
def dif (s c : Ce) : List (Value × AVal) := cells18.filterMap (ent s c)

theorem dif_mem {s c : Ce} {k : Value} {x : AVal} : (k, x) ∈ dif s c ↔ ∃ o i, o < 3 ∧ i < 6 ∧ s o i ≠ c o i ∧ k = K2 o i ∧ x = .v (.int .i64 (s o i)) := by
  simp only [dif, List.mem_filterMap, ent]
  constructor
  · rintro ⟨⟨o, i⟩, hm, h⟩
    split at h
    · rename_i hne
      simp at h
      exact ⟨o, i, (mem18.1 hm).1, (mem18.1 hm).2, hne, h.1.symm, h.2.symm⟩
    · cases h
  · rintro ⟨o, i, h1, h2, h3, rfl, rfl⟩
    exact ⟨(o, i), mem18.2 ⟨h1, h2⟩, by rw [if_pos h3]⟩
theorem dif_vals (s c : Ce) : ∀ p ∈ dif s c, ∃ u, p.2 = .v u := by
  rintro ⟨k, x⟩ hp
  obtain ⟨o, i, _, _, _, _, h⟩ := dif_mem.1 hp
  exact ⟨_, h⟩
theorem dif_no {s c : Ce} {o i : Nat} (h : s o i = c o i) : ∀ p ∈ dif s c, p.1 ≠ K2 o i := by
  rintro ⟨k, x⟩ hp e
  obtain ⟨o', i', _, _, h3, h4, _⟩ := dif_mem.1 hp
  simp only at e
  obtain ⟨rfl, rfl⟩ := K2_inj (h4.symm.trans e)
  exact h3 h
theorem dif_in {s c : Ce} {o i : Nat} (ho : o < 3) (hi : i < 6) (h : s o i ≠ c o i) : (K2 o i, .v (.int .i64 (s o i))) ∈ dif s c := dif_mem.2 ⟨o, i, ho, hi, h, rfl, rfl⟩
theorem split18 {o i : Nat} (ho : o < 3) (hi : i < 6) : ∃ A B, cells18 = A ++ (o, i) :: B ∧ (∀ p ∈ A ++ B, p ≠ (o, i)) := by
  obtain ⟨A, B, e⟩ := List.append_of_mem (mem18.2 ⟨ho, hi⟩)
  refine ⟨A, B, e, fun p hp he => ?_⟩
  have := cells18_nd
  rw [e, List.perm_middle.nodup_iff, List.nodup_cons] at this
  exact this.1 (he ▸ hp)
theorem fm_congr {α β : Type} {f g : α → Option β} : ∀ {l : List α}, (∀ p ∈ l, f p = g p) → l.filterMap f = l.filterMap g
  | [], _ => rfl
  | a :: l, h => by
    rw [List.filterMap_cons, List.filterMap_cons, h a (by simp), fm_congr (fun p hp => h p (by simp [hp]))]
theorem ent_other {s c : Ce} {o i : Nat} {v : Int} {p : Nat × Nat} (h : p ≠ (o, i)) : ent s (c.upd o i v) p = ent s c p := by
  obtain ⟨a, b⟩ := p
  simp only [ent]
  rw [Ce.upd_other _ _ (fun e => h (by rw [e.1, e.2]))]
theorem ent_same {s c : Ce} {o i : Nat} {v : Int} : ent s (c.upd o i v) (o, i) = if s o i ≠ v then some (K2 o i, .v (.int .i64 (s o i))) else none := by
  simp only [ent, Ce.upd_same]
theorem dif_split {s c : Ce} {o i : Nat} {v : Int} (ho : o < 3) (hi : i < 6) : ∃ A B, dif s c = A ++ ((ent s c (o, i)).toList ++ B) ∧ dif s (c.upd o i v) = A ++ ((ent s (c.upd o i v) (o, i)).toList ++ B) := by
  obtain ⟨A, B, e, hn⟩ := split18 ho hi
  refine ⟨A.filterMap (ent s c), B.filterMap (ent s c), ?_, ?_⟩
  · simp only [dif, e, List.filterMap_append, List.filterMap_cons]
    cases ent s c (o, i) <;> rfl
  · have h1 : A.filterMap (ent s (c.upd o i v)) = A.filterMap (ent s c) := fm_congr fun p hp => ent_other (hn p (by simp [hp]))
    have h2 : B.filterMap (ent s (c.upd o i v)) = B.filterMap (ent s c) := fm_congr fun p hp => ent_other (hn p (by simp [hp]))
    simp only [dif, e, List.filterMap_append, List.filterMap_cons, h1, h2]
    cases ent s (c.upd o i v) (o, i) <;> rfl
/-- A cell that stood as at the mark gets another value. -/
theorem dif_ins {s c : Ce} {o i : Nat} {v : Int} (ho : o < 3) (hi : i < 6) (h : s o i = c o i) (hv : s o i ≠ v) : (dif s (c.upd o i v)).Perm (dif s c ++ [(K2 o i, .v (.int .i64 (s o i)))]) := by
  obtain ⟨A, B, e1, e2⟩ := dif_split (s := s) (c := c) (v := v) ho hi
  rw [e1, e2, ent_same, if_pos hv]
  have : ent s c (o, i) = none := by simp [ent, h]
  rw [this]
  simp only [Option.toList, List.nil_append, List.cons_append, List.append_assoc]
  exact (List.perm_append_left_iff A).2 (List.perm_append_singleton _ _).symm
/-- A cell gets back what stood there. -/
theorem dif_del {s c : Ce} {o i : Nat} (ho : o < 3) (hi : i < 6) (h : s o i ≠ c o i) : ∃ p x r, dif s c = p ++ (K2 o i, x) :: r ∧ dif s (c.upd o i (s o i)) = p ++ r := by
  obtain ⟨A, B, e1, e2⟩ := dif_split (s := s) (c := c) (v := s o i) ho hi
  refine ⟨A, .v (.int .i64 (s o i)), B, ?_, ?_⟩
  · rw [e1]; simp [ent, h]
  · rw [e2, ent_same]; simp
theorem dif_keep {s c : Ce} {o i : Nat} {v : Int} (ho : o < 3) (hi : i < 6) (h : s o i ≠ c o i) (hv : s o i ≠ v) : dif s (c.upd o i v) = dif s c := by
  obtain ⟨A, B, e1, e2⟩ := dif_split (s := s) (c := c) (v := v) ho hi
  rw [e1, e2, ent_same, if_pos hv]; simp [ent, h]
theorem dif_stay {s c : Ce} {o i : Nat} {v : Int} (ho : o < 3) (hi : i < 6) (h : v = c o i) : dif s (c.upd o i v) = dif s c := by
  have : c.upd o i v = c := by
    funext a b
    by_cases e : a = o ∧ b = i
    · rw [e.1, e.2, Ce.upd_same, h]
    · rw [Ce.upd_other _ _ e]
  rw [this]
theorem dif_self (c : Ce) : dif c c = [] := by
  simp only [dif]
  rw [List.filterMap_eq_nil_iff]
  intro p _; simp [ent]
#print axioms dif_ins
#print axioms dif_del
end Go.AV
