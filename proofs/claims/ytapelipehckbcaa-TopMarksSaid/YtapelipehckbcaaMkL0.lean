/- Cells with marks: the list of changes, in plain Lean. -/
import Derived.Test.YtapelipehckbcaaMkK
set_option linter.unusedVariables false
set_option linter.unusedSimpArgs false
set_option linter.unnecessarySimpa false
namespace Go.AV
abbrev mfn (f b : Nat) : AVal := .v (.func (.func f) #[] #[.pointer (some ⟨b, 0, none⟩)])
abbrev myv (L : Nat) : AVal := .v (.func (.yield L) #[] #[])
def chgV (s c : Ce) (o i : Nat) : AVal := .agg [iv ((o + 1 : Nat) : Int), iv (i : Int), iv (s o i), iv (c o i)]
def chgCell (s c : Ce) (o i : Nat) : Option AVal := if s o i ≠ c o i then some (chgV s c o i) else none
def chgRow (s c : Ce) (o k : Nat) : List AVal := (List.range k).filterMap (chgCell s c o)
/-- What has changed ahead of a cell. -/
def chgU (s c : Ce) (n : Nat → Nat) (o i : Nat) : List AVal := (List.range o).flatMap (fun a => chgRow s c a (n a)) ++ chgRow s c o i
theorem chgRow_succ (s c : Ce) (o i : Nat) : chgRow s c o (i + 1) = chgRow s c o i ++ (chgCell s c o i).toList := by
  simp only [chgRow, List.range_succ, List.filterMap_append]
  cases h : chgCell s c o i <;> simp [h]
theorem chgU_succ (s c : Ce) (n : Nat → Nat) (o i : Nat) : chgU s c n o (i + 1) = chgU s c n o i ++ (chgCell s c o i).toList := by
  simp only [chgU, chgRow_succ, List.append_assoc]
theorem chgU_row (s c : Ce) (n : Nat → Nat) (o : Nat) : chgU s c n (o + 1) 0 = chgU s c n o (n o) := by
  simp [chgU, List.range_succ, chgRow]
theorem chgU_0 (s c : Ce) (n : Nat → Nat) : chgU s c n 0 0 = [] := rfl
theorem chgRow_len (s c : Ce) (o k : Nat) : (chgRow s c o k).length ≤ k := by
  have := List.length_filterMap_le (chgCell s c o) (List.range k)
  simpa [chgRow] using this
theorem chgU_len (s c : Ce) {n : Nat → Nat} (hn : ∀ o, o < 3 → n o ≤ 6) : ∀ {o i : Nat}, o ≤ 3 → i ≤ 6 → (chgU s c n o i).length ≤ 6 * o + i := by
  intro o i ho hi
  have h1 : ∀ o, o ≤ 3 → ((List.range o).flatMap (fun a => chgRow s c a (n a))).length ≤ 6 * o := by
    intro o
    induction o with
    | zero => intro _; simp
    | succ o ih =>
      intro h
      have := ih (by omega)
      have h2 := chgRow_len s c o (n o)
      have h3 := hn o (by omega)
      rw [List.range_succ, List.flatMap_append, List.length_append]
      simp only [List.flatMap_cons, List.flatMap_nil, List.append_nil]
      omega
  have := h1 o ho
  have h2 := chgRow_len s c o i
  simp only [chgU, List.length_append]; omega
theorem chgCell_good {s c : Ce} {o i : Nat} {x : AVal} (h : chgCell s c o i = some x) : (x.good && Nat.beq x.cells.length 4) = true := by
  unfold chgCell at h
  split at h
  · cases h; rfl
  · cases h
theorem chgU_good (s c : Ce) (n : Nat → Nat) (o i : Nat) : (chgU s c n o i).all (fun x => x.good && Nat.beq x.cells.length 4) = true := by
  rw [List.all_eq_true]
  intro x hx
  simp only [chgU, chgRow, List.mem_append, List.mem_flatMap, List.mem_filterMap] at hx
  rcases hx with ⟨a, _, j, _, h⟩ | ⟨j, _, h⟩ <;> exact chgCell_good h
/-- The whole list: nothing has changed beyond the last cells. -/
theorem chgRow_ext {s c : Ce} {o k : Nat} (h : ∀ i, k ≤ i → i < 6 → s o i = c o i) : ∀ m, k + m ≤ 6 → chgRow s c o (k + m) = chgRow s c o k
  | 0, _ => rfl
  | m + 1, hm => by
    rw [← Nat.add_assoc, chgRow_succ, chgRow_ext h m (by omega)]
    simp [chgCell, h (k + m) (by omega) (by omega)]
theorem chgU_all {s c : Ce} {n : Nat → Nat} (hn : ∀ o, o < 3 → n o ≤ 6) (hs : Zr n s) (hc : Zr n c) : chgU s c n 3 0 = chgU s c (fun _ => 6) 3 0 := by
  have key : ∀ o, o < 3 → chgRow s c o (n o) = chgRow s c o 6 := by
    intro o ho
    have := chgRow_ext (s := s) (c := c) (o := o) (k := n o) (fun i h1 h2 => by rw [hs o i ho h1, hc o i ho h1]) (6 - n o) (by have := hn o ho; omega)
    rw [← this, show n o + (6 - n o) = 6 by have := hn o ho; omega]
  simp only [chgU, List.range_succ, List.range_zero, List.nil_append, List.flatMap_append, List.flatMap_cons, List.flatMap_nil, List.append_nil]
  rw [key 0 (by omega), key 1 (by omega), key 2 (by omega)]
/-- As many entries as changes. -/
theorem dif_chg (s c : Ce) : (dif s c).length = (chgU s c (fun _ => 6) 3 0).length := by
  have h1 : (chgU s c (fun _ => 6) 3 0) = cells18.filterMap fun p => chgCell s c p.1 p.2 := by
    have e : cells18 = (List.range 3).flatMap fun o => (List.range 6).map fun i => (o, i) := by decide
    rw [e, List.filterMap_flatMap]
    simp only [chgU, chgRow, List.filterMap_map, List.range_zero, List.filterMap_nil, List.append_nil]
    rfl
  rw [h1, dif]
  have h2 : ∀ l : List (Nat × Nat), (l.filterMap (ent s c)).length = (l.filterMap fun p => chgCell s c p.1 p.2).length := by
    intro l
    induction l with
    | nil => rfl
    | cons p l ih =>
      rw [List.filterMap_cons, List.filterMap_cons]
      simp only [ent, chgCell]
      by_cases h : s p.1 p.2 ≠ c p.1 p.2
      · rw [if_pos h, if_pos h]; simp only [List.length_cons]; rw [ih]; rfl
      · rw [if_neg h, if_neg h]; exact ih
  exact h2 _
#print axioms chgU_all
end Go.AV
