/- Frames and records: plain laws of streams. -/
import Derived.Test.YtapelipehckbcaaFrI
set_option linter.unusedVariables false
set_option linter.unusedSimpArgs false
namespace Go.AV
def frameOf (B : List UInt8) : List UInt8 := form B.length ++ B
def frs (Bs : List (List UInt8)) : List UInt8 := Bs.flatMap frameOf
theorem frameOf_len (B : List UInt8) : (frameOf B).length = (form B.length).length + B.length := by simp [frameOf]
theorem frameOf_pos {B : List UInt8} (hB : B.length ≤ 16384) : 1 ≤ (frameOf B).length := by
  have := form_len (n := B.length) (by omega); rw [frameOf_len]; omega
theorem digs1 {L : Nat} (h0 : 0 < L) (h : L < 256) : digs L = [UInt8.ofNat L] := by
  rw [digs_pos h0, show L / 256 = 0 by omega, digs_zero]; rfl
theorem digs2 {L : Nat} (h0 : 256 ≤ L) (h : L < 65536) : digs L = [UInt8.ofNat (L / 256), UInt8.ofNat L] := by
  rw [digs_pos (by omega), digs1 (L := L / 256) (by omega) (by omega)]; rfl
/-- What the size of a beginning of a frame comes to. -/
theorem sizeF_pre {B : List UInt8} (hB : B.length ≤ 16384) (rest : List UInt8) (j : Nat) : (sizeF ((frameOf B ++ rest).take j)).2.2 = 0 ∧
    (((sizeF ((frameOf B ++ rest).take j)).2.1 = true ∧ (sizeF ((frameOf B ++ rest).take j)).1 = (frameOf B).length) ∨ ((sizeF ((frameOf B ++ rest).take j)).2.1 = false ∧ j < (frameOf B).length)) := by
  have hpos := frameOf_pos hB
  cases j with
  | zero => simp [sizeF]; omega
  | succ j =>
    rcases Nat.lt_or_ge 246 B.length with h | h
    · rcases Nat.lt_or_ge B.length 256 with h2 | h2
      · -- one digit
        have hd := digs1 (L := B.length) (by omega) h2
        have hf : frameOf B = 247 :: (UInt8.ofNat B.length :: B) := by
          rw [frameOf, form_big h, hd]; rfl
        have ht : (UInt8.ofNat B.length).toNat = B.length := by rw [UInt8.toNat_ofNat']; omega
        have hlen : (frameOf B).length = B.length + 2 := by rw [hf]; simp
        rw [hlen, hf]
        simp only [List.cons_append, List.take_succ_cons]
        rw [sizeF, if_neg (by decide)]
        have e247 : (247 : UInt8).toNat - 246 = 1 := by decide
        rw [e247]
        cases j with
        | zero => simp [sizeGo, sdig]
        | succ j =>
          simp only [List.take_succ_cons, sizeGo, sdig, List.length_cons, Nat.zero_lt_succ, if_true, List.getD_cons_zero, ht, Nat.zero_mul, Nat.zero_add]
          rw [if_neg (by omega)]
          simp only
          rw [if_neg (by omega)]
          simp; omega
      · -- two digits
        have hd := digs2 (L := B.length) h2 (by omega)
        have hf : frameOf B = 248 :: (UInt8.ofNat (B.length / 256) :: UInt8.ofNat B.length :: B) := by
          rw [frameOf, form_big h, hd]; rfl
        have ht1 : (UInt8.ofNat (B.length / 256)).toNat = B.length / 256 := by rw [UInt8.toNat_ofNat']; omega
        have ht2 : (UInt8.ofNat B.length).toNat = B.length % 256 := by rw [UInt8.toNat_ofNat']
        have hlen : (frameOf B).length = B.length + 3 := by rw [hf]; simp
        rw [hlen, hf]
        simp only [List.cons_append, List.take_succ_cons]
        rw [sizeF, if_neg (by decide)]
        have e248 : (248 : UInt8).toNat - 246 = 2 := by decide
        rw [e248]
        cases j with
        | zero => simp [sizeGo, sdig]
        | succ j =>
          cases j with
          | zero =>
            simp only [List.take_succ_cons, List.take_zero, sizeGo, sdig, List.length_cons, List.length_nil, Nat.zero_lt_succ, if_true, List.getD_cons_zero, ht1, Nat.zero_mul, Nat.zero_add, Nat.lt_irrefl, if_false, Nat.add_zero]
            rw [if_neg (by omega), if_neg (by simp; omega)]
            simp only
            rw [if_neg (by simp; omega)]
            simp
          | succ j =>
            simp only [List.take_succ_cons, sizeGo, sdig, List.length_cons, Nat.zero_lt_succ, if_true, List.getD_cons_zero, List.getD_cons_succ, ht1, ht2, Nat.zero_mul, Nat.zero_add, Nat.lt_add_left_iff_pos, Nat.succ_lt_succ_iff]
            rw [if_neg (by omega), if_neg (by simp; omega)]
            simp only
            rw [if_neg (by simp; omega)]
            simp; omega
    · have hf : frameOf B = UInt8.ofNat B.length :: B := by rw [frameOf, form_small h]; rfl
      have ht : (UInt8.ofNat B.length).toNat = B.length := by rw [UInt8.toNat_ofNat']; omega
      have hlen : (frameOf B).length = B.length + 1 := by rw [hf]; simp
      rw [hlen, hf]
      simp only [List.cons_append, List.take_succ_cons, sizeF, ht, h, if_true]
      simp; omega
theorem headF_cons (d : UInt8) (r : List UInt8) : headF (d :: r) = 1 + (d.toNat - 246) := rfl
theorem headF_take (l : List UInt8) (j : Nat) (hj : 0 < j) : headF (l.take j) = headF l := by
  obtain ⟨j, rfl⟩ : ∃ k, j = k + 1 := ⟨j - 1, by omega⟩
  cases l with
  | nil => rfl
  | cons a r => rw [List.take_succ_cons, headF_cons, headF_cons]
theorem headF_frame {B : List UInt8} (hB : B.length ≤ 16384) (rest : List UInt8) : headF (frameOf B ++ rest) = (form B.length).length := by
  rcases Nat.lt_or_ge 246 B.length with h | h
  · have h2 := digs_len2 (n := B.length) (by omega)
    have hf : frameOf B ++ rest = UInt8.ofNat (246 + (digs B.length).length) :: (digs B.length ++ B ++ rest) := by rw [frameOf, form_big h]; rfl
    have hl : (form B.length).length = (digs B.length).length + 1 := by rw [form_big h]; rfl
    have ht : (UInt8.ofNat (246 + (digs B.length).length)).toNat = 246 + (digs B.length).length := by rw [UInt8.toNat_ofNat']; omega
    rewrite [hf, headF_cons, hl, ht, Nat.add_sub_cancel_left, Nat.add_comm]
    rfl
  · have hf : frameOf B ++ rest = UInt8.ofNat B.length :: (B ++ rest) := by rw [frameOf, form_small h]; rfl
    have hl : (form B.length).length = 1 := by rw [form_small h]; rfl
    have ht : (UInt8.ofNat B.length).toNat = B.length := by rw [UInt8.toNat_ofNat']; omega
    have h0 : B.length - 246 = 0 := by omega
    rewrite [hf, headF_cons, hl, ht, h0]
    rfl
theorem readFr_pre {B : List UInt8} (hB : B.length ≤ 16384) (rest : List UInt8) (j : Nat) : readFr ((frameOf B ++ rest).take j) = if (frameOf B).length ≤ j then (B, (frameOf B).length, 0) else ([], 0, 30) := by
  obtain ⟨h1, h2⟩ := sizeF_pre hB rest j
  have hpos := frameOf_pos hB
  rw [readFr, if_neg (by simp [h1])]
  rcases h2 with ⟨h2, h3⟩ | ⟨h2, h3⟩
  · by_cases hj : (frameOf B).length ≤ j
    · rw [if_pos hj, if_neg (by rw [h2, h3]; simp; omega), h3]
      have e1 : ((frameOf B ++ rest).take j).take (frameOf B).length = frameOf B := by
        rw [List.take_take, Nat.min_eq_left hj, List.take_left]
      have e2 : headF ((frameOf B ++ rest).take j) = (form B.length).length := by
        rw [headF_take _ _ (by omega)]; exact headF_frame hB rest
      rw [e1, e2, frameOf, List.drop_left]
    · rw [if_neg hj, if_pos (by right; rw [h3]; simp; omega)]
  · rw [if_pos (.inl h2), if_neg (by omega)]
/-- What follows all frames: no frame begins with it. -/
def Behind (t : List UInt8) (E : Nat → Int) : Prop := ∀ j, readFr (t.take j) = ([], 0, E j) ∧ E j ≠ 0
def cnt : List (List UInt8) → Nat → Nat
  | [], _ => 0
  | B :: Bs, j => if (frameOf B).length ≤ j then 1 + cnt Bs (j - (frameOf B).length) else 0
def usd : List (List UInt8) → Nat → Nat
  | [], _ => 0
  | B :: Bs, j => if (frameOf B).length ≤ j then (frameOf B).length + usd Bs (j - (frameOf B).length) else 0
theorem cnt_le : ∀ (Bs : List (List UInt8)) (j : Nat), cnt Bs j ≤ Bs.length ∧ usd Bs j ≤ j ∧ usd Bs j = (frs (Bs.take (cnt Bs j))).length
  | [], j => by simp [cnt, usd, frs]
  | B :: Bs, j => by
    have := cnt_le Bs (j - (frameOf B).length)
    simp only [cnt, usd]
    split
    · rw [Nat.add_comm 1, List.take_succ_cons]
      simp only [frs, List.flatMap_cons, List.length_append, List.length_cons] at this ⊢
      omega
    · simp [frs]
theorem split_pre {t : List UInt8} {E : Nat → Int} (ht : Behind t E) : ∀ (Bs : List (List UInt8)) (m j : Nat), (∀ B ∈ Bs, B.length ≤ 16384) → ((frs Bs ++ t).take j).length < m →
    splitGo m ((frs Bs ++ t).take j) = (Bs.take (cnt Bs j), ((frs Bs ++ t).take j).drop (usd Bs j))
  | [], m, j, _, hm => by
    obtain ⟨m, rfl⟩ : ∃ k, m = k + 1 := ⟨m - 1, by omega⟩
    simp only [frs, List.flatMap_nil, List.nil_append, cnt, usd, List.take_nil, List.drop_zero, splitGo]
    rw [if_pos (by rw [(ht j).1]; exact (ht j).2)]
  | B :: Bs, m, j, hB, hm => by
    obtain ⟨m, rfl⟩ : ∃ k, m = k + 1 := ⟨m - 1, by omega⟩
    have hb := hB B (by simp)
    have hpos := frameOf_pos hb
    have hr := readFr_pre hb (frs Bs ++ t) j
    have he : frs (B :: Bs) ++ t = frameOf B ++ (frs Bs ++ t) := by simp [frs]
    rw [he] at hm ⊢
    simp only [cnt, usd, splitGo]
    by_cases hj : (frameOf B).length ≤ j
    · rw [if_pos hj] at hr
      rw [if_pos hj, if_pos hj, hr]
      have hd : ((frameOf B ++ (frs Bs ++ t)).take j).drop (frameOf B).length = (frs Bs ++ t).take (j - (frameOf B).length) := by
        rw [List.drop_take, List.drop_left]
      have ih := split_pre ht Bs m (j - (frameOf B).length) (fun x hx => hB x (by simp [hx])) (by
        rw [← hd, List.length_drop]
        have : ((frameOf B ++ (frs Bs ++ t)).take j).length = min j (frameOf B ++ (frs Bs ++ t)).length := by simp
        have h2 : (frameOf B).length ≤ (frameOf B ++ (frs Bs ++ t)).length := by simp
        omega)
      simp only [ne_eq, not_true_eq_false, if_false]
      rw [hd, ih, ← hd, List.drop_drop, Nat.add_comm 1 (cnt _ _), List.take_succ_cons]
    · rw [if_neg hj] at hr
      rw [if_neg hj, if_neg hj, hr]
      simp
end Go.AV
