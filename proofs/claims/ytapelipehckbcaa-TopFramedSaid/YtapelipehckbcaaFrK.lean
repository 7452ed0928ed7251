/- Frames and records: plain laws of a stream that gets its bytes in pieces. -/
import Derived.Test.YtapelipehckbcaaFrJ
set_option linter.unusedVariables false
set_option linter.unusedSimpArgs false
namespace Go.AV
theorem cnt_split : ∀ (Bs : List (List UInt8)) (j k : Nat), j ≤ k → cnt Bs k = cnt Bs j + cnt (Bs.drop (cnt Bs j)) (k - usd Bs j) ∧ usd Bs k = usd Bs j + usd (Bs.drop (cnt Bs j)) (k - usd Bs j)
  | [], j, k, _ => by simp [cnt, usd]
  | B :: Bs, j, k, h => by
    simp only [cnt, usd]
    by_cases hj : (frameOf B).length ≤ j
    · rw [if_pos hj, if_pos hj, if_pos (by omega), if_pos (by omega)]
      have ih := cnt_split Bs (j - (frameOf B).length) (k - (frameOf B).length) (by omega)
      rw [Nat.add_comm 1 (cnt Bs (j - _)), List.drop_succ_cons]
      rw [show k - ((frameOf B).length + usd Bs (j - (frameOf B).length)) = k - (frameOf B).length - usd Bs (j - (frameOf B).length) by omega]
      omega
    · rw [if_neg hj, if_neg hj]
      simp only [List.drop_zero, Nat.sub_zero, Nat.zero_add, cnt, usd]
      exact ⟨trivial, trivial⟩
theorem cnt_lt : ∀ (Bs : List (List UInt8)) (j i : Nat), i < cnt Bs j → i < Bs.length ∧ (frs (Bs.take (i + 1))).length ≤ j
  | [], j, i, h => by simp [cnt] at h
  | B :: Bs, j, i, h => by
    simp only [cnt] at h
    split at h
    · rename_i hj
      cases i with
      | zero => simp [frs]; exact hj
      | succ i =>
        have := cnt_lt Bs (j - (frameOf B).length) i (by omega)
        simp only [List.take_succ_cons, frs, List.flatMap_cons, List.length_append, List.length_cons] at this ⊢
        omega
    · omega
theorem cnt_end : ∀ (Bs : List (List UInt8)) (j : Nat), cnt Bs j < Bs.length → j < (frs (Bs.take (cnt Bs j + 1))).length
  | [], j, h => by simp [cnt] at h
  | B :: Bs, j, h => by
    simp only [cnt] at h ⊢
    split at h
    · rename_i hj
      rw [if_pos hj]
      have := cnt_end Bs (j - (frameOf B).length) (by simp at h; omega)
      rw [Nat.add_comm 1 (cnt _ _), List.take_succ_cons]
      simp only [frs, List.flatMap_cons, List.length_append] at this ⊢
      omega
    · rename_i hj
      rw [if_neg hj]
      simp [frs]; omega
theorem cnt_all : ∀ (Bs : List (List UInt8)) (j : Nat), (frs Bs).length ≤ j → cnt Bs j = Bs.length ∧ usd Bs j = (frs Bs).length
  | [], j, _ => by simp [cnt, usd, frs]
  | B :: Bs, j, h => by
    simp only [frs, List.flatMap_cons, List.length_append] at h
    have := cnt_all Bs (j - (frameOf B).length) (by simp only [frs]; omega)
    simp only [cnt, usd]
    rw [if_pos (by omega), if_pos (by omega)]
    simp only [frs, List.flatMap_cons, List.length_append, List.length_cons] at this ⊢
    omega
theorem frs_split (Bs : List (List UInt8)) (i : Nat) : frs Bs = frs (Bs.take i) ++ frs (Bs.drop i) := by
  rw [frs, frs, frs, ← List.flatMap_append, List.take_append_drop]
theorem frs_take {Bs : List (List UInt8)} {i : Nat} (h : i < Bs.length) : (frs (Bs.take (i + 1))).length = (frs (Bs.take i)).length + (frameOf Bs[i]).length := by
  unfold frs; rw [List.take_succ_eq_append_getElem h, List.flatMap_append]; simp
/-- What a stream holds when it got so many bytes. -/
def heldF (Bs : List (List UInt8)) (t : List UInt8) (j : Nat) : List UInt8 := ((frs Bs ++ t).take j).drop (usd Bs j)
theorem held_rest (Bs : List (List UInt8)) (t : List UInt8) (j k : Nat) : ((frs Bs ++ t).take k).drop (usd Bs j) = (frs (Bs.drop (cnt Bs j)) ++ t).take (k - usd Bs j) := by
  have h := cnt_le Bs j
  rw [List.drop_take]
  congr 1
  rw [frs_split Bs (cnt Bs j), List.append_assoc, List.drop_left' h.2.2.symm]
theorem held_more (Bs : List (List UInt8)) (t : List UInt8) {j n : Nat} (h : j + n ≤ (frs Bs ++ t).length) : heldF Bs t j ++ ((frs Bs ++ t).take (j + n)).drop j = ((frs Bs ++ t).take (j + n)).drop (usd Bs j) := by
  have hu := (cnt_le Bs j).2.1
  have e : (frs Bs ++ t).take (j + n) = (frs Bs ++ t).take j ++ ((frs Bs ++ t).take (j + n)).drop j := by
    conv => lhs; rw [← List.take_append_drop j ((frs Bs ++ t).take (j + n))]
    rw [List.take_take, Nat.min_eq_left (by omega)]
  conv => rhs; rw [e]
  rw [List.drop_append_of_le_length (by simp; simp at h; omega)]
  rfl
theorem feed_split {Bs : List (List UInt8)} {t : List UInt8} {E : Nat → Int} (ht : Behind t E) (hB : ∀ B ∈ Bs, B.length ≤ 16384) {j n : Nat} (h : j + n ≤ (frs Bs ++ t).length) :
    splitF (heldF Bs t j ++ ((frs Bs ++ t).take (j + n)).drop j) = ((Bs.drop (cnt Bs j)).take (cnt Bs (j + n) - cnt Bs j), heldF Bs t (j + n)) := by
  obtain ⟨h1, h2⟩ := cnt_split Bs j (j + n) (by omega)
  have hu := cnt_le Bs j
  rw [held_more Bs t h, held_rest, splitF, split_pre ht (Bs.drop (cnt Bs j)) _ _ (fun B hb => hB B (List.mem_of_mem_drop hb)) (Nat.lt_succ_self _)]
  rw [← held_rest, List.drop_drop, heldF, ← h2]
  congr 2
  omega
theorem readFr_held {Bs : List (List UInt8)} {t : List UInt8} {E : Nat → Int} (ht : Behind t E) (hB : ∀ B ∈ Bs, B.length ≤ 16384) (j : Nat) :
    readFr (heldF Bs t j) = ([], 0, if (frs Bs).length ≤ j then E (j - (frs Bs).length) else 30) := by
  rw [heldF, held_rest]
  have hu := cnt_le Bs j
  cases hd : Bs.drop (cnt Bs j) with
  | nil =>
    have hc : Bs.length ≤ cnt Bs j := by simpa using hd
    have hlen : (frs Bs).length = usd Bs j := by rw [hu.2.2, List.take_of_length_le hc]
    rw [if_pos (by omega), hlen]
    simp only [frs, List.flatMap_nil, List.nil_append]
    exact (ht _).1
  | cons B r =>
    have hlt : cnt Bs j < Bs.length := by
      rcases Nat.lt_or_ge (cnt Bs j) Bs.length with h | h
      · exact h
      · rw [List.drop_of_length_le h] at hd; cases hd
    have hend := cnt_end Bs j hlt
    have hBi : Bs[cnt Bs j] = B := by
      rw [List.drop_eq_getElem_cons hlt] at hd; exact (List.cons.inj hd).1
    rw [frs_take hlt, hBi, ← hu.2.2] at hend
    have hn : ¬ (frs Bs).length ≤ j := by
      intro hle
      have := (cnt_all Bs j hle).1; omega
    rw [if_neg hn]
    have hb := hB B (by rw [← hBi]; exact List.getElem_mem hlt)
    have e : frs (B :: r) ++ t = frameOf B ++ (frs r ++ t) := by simp [frs]
    rw [e, readFr_pre hb, if_neg (by omega)]
theorem sizeF_e (b : List UInt8) : (sizeF b).2.2 = 0 ∨ (sizeF b).2.2 = 31 := by
  unfold sizeF
  split
  · exact .inl rfl
  · split
    · exact .inl rfl
    · split
      · exact .inr rfl
      · split
        · exact .inr rfl
        · exact .inl rfl
theorem readFr_e (b : List UInt8) (h : (readFr b).2.2 = 30) : (sizeF b).2.2 = 0 := by
  rcases sizeF_e b with h1 | h1
  · exact h1
  · rw [readFr, if_pos (by rw [h1]; decide)] at h
    simp only at h
    rw [h1] at h; cases h
theorem feed_E {Bs : List (List UInt8)} {t : List UInt8} {E : Nat → Int} (ht : Behind t E) (hB : ∀ B ∈ Bs, B.length ≤ 16384) {j n : Nat} (h : j + n ≤ (frs Bs ++ t).length) :
    splitE (heldF Bs t j ++ ((frs Bs ++ t).take (j + n)).drop j) = if heldF Bs t (j + n) = [] then 0 else if (frs Bs).length ≤ j + n then E (j + n - (frs Bs).length) else 30 := by
  rw [splitE, feed_split ht hB h]
  simp only
  rw [readFr_held ht hB]
/-- What is behind: the beginning of a frame; what can be none. -/
def behT (wrong : Bool) : List UInt8 := if wrong then [249, 1] else [247, 250, 1, 2]
def behE (wrong : Bool) (j : Nat) : Int := if wrong = true ∧ 0 < j then 31 else 30
theorem beh_ok : Behind (behT false) (behE false) := by
  intro j
  have hd : digs 250 = [250] := by rw [digs1 (by omega) (by omega)]; rfl
  have hB : (([1, 2] : List UInt8) ++ List.replicate 248 0).length = 250 := by rw [List.length_append, List.length_replicate]; rfl
  have hf : frameOf ([1, 2] ++ List.replicate 248 0) = [247, 250, 1, 2] ++ List.replicate 248 0 := by
    rw [frameOf, hB, form_big (by omega), hd]; rfl
  have ht : (behT false).take j = (frameOf ([1, 2] ++ List.replicate 248 0) ++ []).take (min j 4) := by
    rw [List.append_nil, hf, behT, if_neg (by simp)]
    rw [← List.take_take]
    congr 1
  refine ⟨?_, by simp [behE]⟩
  rw [ht, readFr_pre (by rw [hB]; omega), if_neg (by rw [hf, List.length_append, List.length_replicate]; show ¬ 4 + 248 ≤ _; omega)]
  simp [behE]
theorem beh_bad : Behind (behT true) (behE true) := by
  intro j
  refine ⟨?_, by unfold behE; split <;> decide⟩
  cases j with
  | zero => decide
  | succ j =>
    cases j with
    | zero => decide
    | succ j =>
      have : (behT true).take (j + 1 + 1) = [249, 1] := by simp [behT]
      rw [this]
      have : readFr [249, 1] = ([], 0, 31) := by decide
      rw [this]; simp [behE]
theorem beh (wrong : Bool) : Behind (behT wrong) (behE wrong) := by cases wrong; exact beh_ok; exact beh_bad
/-- Is a stream dead that got so many bytes. -/
def deadF (wrong : Bool) (Bs : List (List UInt8)) (j : Nat) : Bool := wrong && decide ((frs Bs).length < j)
theorem dead_E {wrong : Bool} {Bs : List (List UInt8)} (hB : ∀ B ∈ Bs, B.length ≤ 16384) {j n : Nat} (h : j + n ≤ (frs Bs ++ behT wrong).length) :
    (splitE (heldF Bs (behT wrong) j ++ ((frs Bs ++ behT wrong).take (j + n)).drop j) = 31) ↔ deadF wrong Bs (j + n) = true := by
  rw [feed_E (beh wrong) hB h]
  have hh : heldF Bs (behT wrong) (j + n) = [] ↔ j + n ≤ usd Bs (j + n) := by
    unfold heldF
    rw [List.drop_eq_nil_iff]
    simp at h ⊢; omega
  by_cases hd : deadF wrong Bs (j + n) = true
  · simp only [hd, iff_true]
    simp only [deadF, Bool.and_eq_true, decide_eq_true_eq] at hd
    have hc := cnt_all Bs (j + n) (by omega)
    rw [if_neg (by rw [hh]; omega), if_pos (by omega), behE, if_pos ⟨hd.1, by omega⟩]
  · simp only [hd, iff_false]
    simp only [deadF, Bool.and_eq_true, decide_eq_true_eq] at hd
    split
    · decide
    · split
      · rw [behE]; split
        · rename_i h1 h2; exfalso; apply hd; exact ⟨h2.1, by omega⟩
        · decide
      · decide
theorem need_ok {wrong : Bool} {Bs : List (List UInt8)} (hB : ∀ B ∈ Bs, B.length ≤ 16384) {j : Nat} (hd : deadF wrong Bs j = false) : (sizeF (heldF Bs (behT wrong) j)).2.2 = 0 := by
  apply readFr_e
  rw [readFr_held (beh wrong) hB]
  simp only
  split
  · rw [behE, if_neg]
    rintro ⟨h1, h2⟩
    simp [deadF, h1] at hd; omega
  · rfl
#print axioms need_ok
#print axioms dead_E
end Go.AV
