/- Cells with marks: a memory that is built row by row, in plain Lean. -/
import Derived.Test.YtapelipehckbcaaMkH
set_option linter.unusedVariables false
set_option linter.unusedSimpArgs false
set_option linter.unnecessarySimpa false
namespace Go.AV
variable {V V₀ V₁ W : View}
def nT (n : Nat → Nat) : List AVal := [iv (n 0), iv (n 1), iv (n 2)]
theorem nT_get {n : Nat → Nat} {i : Nat} (h : i < 3) : (nT n)[((i : Nat) : Int).toNat]? = some (iv (n i)) := by
  have : i = 0 ∨ i = 1 ∨ i = 2 := by omega
  rcases this with rfl | rfl | rfl <;> rfl
abbrev nilS : AVal := .v (.slice none 0 0)
/-- A memory of which i rows are there. -/
def Build (V : View) (b : Nat) (n : Nat → Nat) (c : Ce) (i : Nat) (V₀ : View) : Prop :=
  ∃ (xc : AVal) (X : Nat → AVal) (Lc : Blks) (LL : Nat → Blks), Part xc 1 i ((List.range i).map X) Lc ∧ (∀ o, o < i → Part (X o) 1 (n o) (rowV c o (n o)) (LL o)) ∧ Own V V₀ ((b, .row [bv true, xc, nilS]) :: (Lc ++ (List.range i).flatMap LL))
theorem Build.start {b : Nat} {n : Nat → Nat} {c : Ce} (hb : V b = none) : Build (V.set b (.row [bv true, nilS, nilS])) b n c 0 V :=
  ⟨nilS, fun _ => nilS, [], fun _ => [], partNil, fun o ho => absurd ho (by omega), by simpa using Own.nil.add (.row [bv true, nilS, nilS]) hb⟩
theorem Build.done {b : Nat} {n : Nat → Nat} {c : Ce} (h : Build V b n c 3 V₀) : Mem V b n c c [] V₀ := by
  obtain ⟨xc, X, Lc, LL, h1, h2, h3⟩ := h
  refine ⟨xc, nilS, _, [], ⟨X, Lc, LL, h1, h2, rfl⟩, ⟨[], [], rfl, partNil, rfl⟩, ?_⟩
  simpa [List.range_succ] using h3
theorem Build.row {b : Nat} {n : Nat → Nat} {c : Ce} {i : Nat} (h : Build V b n c i V₀) : ∃ xc, V b = some (.row [bv true, xc, nilS]) := by
  obtain ⟨xc, X, Lc, LL, h1, h2, h3⟩ := h
  exact ⟨xc, h3.mem (by simp)⟩
theorem Build.le {b : Nat} {n : Nat → Nat} {c : Ce} {i : Nat} (h : Build V b n c i V₀) : V₀.le V := by
  obtain ⟨xc, X, Lc, LL, h1, h2, h3⟩ := h
  exact h3.le
theorem Build.step {b : Nat} {n : Nat → Nat} {c : Ce} {i : Nat} {V1 : View} {x0 : AVal} (h : Build V b n c i V₀) (hA : Acc V1 x0 1 (n i) (rowV c i (n i)) V) :
    ∃ (xc : AVal) (cs : List AVal) (V₁ : View), V b = some (.row [bv true, xc, nilS]) ∧ V1 b = some (.row [bv true, xc, nilS]) ∧ V₁ b = some (.row [bv true, xc, nilS]) ∧ Acc V1 xc 1 i cs V₁ ∧
      ∀ V' x', Acc V' x' 1 (i + 1) (cs ++ [x0]) V₁ → Build (V'.set b (.row [bv true, x', nilS])) b n c (i + 1) V₀ := by
  obtain ⟨xc, X, Lc, LL, h1, h2, h3⟩ := h
  obtain ⟨Lx, k1, k2⟩ := acc_part hA
  have hj := (k2.join h3).perm (L' := Lc ++ ((b, .row [bv true, xc, nilS]) :: ((List.range i).flatMap LL ++ Lx))) (by
    have e1 : (Lx ++ (b, AObj.row [bv true, xc, nilS]) :: (Lc ++ (List.range i).flatMap LL)).Perm ((b, AObj.row [bv true, xc, nilS]) :: (Lc ++ (List.range i).flatMap LL) ++ Lx) := List.perm_append_comm
    refine List.Perm.trans ?_ e1.symm
    have e2 := List.perm_middle (a := (b, AObj.row [bv true, xc, nilS])) (l₁ := Lc) (l₂ := (List.range i).flatMap LL ++ Lx)
    simpa using e2)
  obtain ⟨V₁, q1, q2⟩ := h1.acc' hj
  refine ⟨xc, _, V₁, h3.mem (by simp), k2.le _ _ (h3.mem (by simp)), q2.mem (by simp), q1, fun V' x' hA2 => ?_⟩
  obtain ⟨Lc', r1, r2⟩ := acc_part hA2
  have r3 := (r2.join q2).set (.row [bv true, x', nilS])
  refine ⟨x', fun o => if o = i then x0 else X o, Lc', fun o => if o = i then Lx else LL o, ?_, fun o ho => ?_, ?_⟩
  · have : (List.range (i + 1)).map (fun o => if o = i then x0 else X o) = (List.range i).map X ++ [x0] := by
      rw [List.range_succ, List.map_append]
      congr 1
      · apply List.map_congr_left
        intro o ho
        have := List.mem_range.1 ho
        simp [show ¬ o = i by omega]
      · simp
    rw [this]; exact r1
  · by_cases e : o = i
    · subst e; simpa using k1
    · simp only [e, if_false]; exact h2 o (by omega)
  · have e : (List.range (i + 1)).flatMap (fun o => if o = i then Lx else LL o) = (List.range i).flatMap LL ++ Lx := by
      rw [List.range_succ, List.flatMap_append]
      congr 1
      · simp only [List.flatMap]
        congr 1
        apply List.map_congr_left
        intro o ho
        have := List.mem_range.1 ho
        simp [show ¬ o = i by omega]
      · simp
    rw [e]
    refine r3.perm ?_
    exact (List.perm_middle (a := (b, AObj.row [bv true, x', nilS])) (l₁ := Lc') (l₂ := (List.range i).flatMap LL ++ Lx)).symm
def Ce0 : Ce := fun _ _ => 0
theorem rowV0 (o n : Nat) : rowV Ce0 o n = List.replicate n (iv 0) := by
  simp only [rowV, Ce0]
  exact List.eq_replicate_iff.2 ⟨by simp, fun x hx => by obtain ⟨i, _, h⟩ := List.mem_map.1 hx; exact h.symm⟩
theorem Mem.pushG {b bN : Nat} {n : Nat → Nat} {c s : Ce} {ss : List Ce} (base' : Ce) (h : Mem V b n c s ss V₀) (hN : V bN = none) : ∃ xc xm ms V₁, (V.set bN (.mp (dif s base'))) b = some (.row [bv true, xc, xm]) ∧ V₁ b = some (.row [bv true, xc, xm]) ∧ V₀.le V₁ ∧ Acc (V.set bN (.mp (dif s base'))) xm 1 ss.length ms V₁ ∧
    ∀ V' x', Acc V' x' 1 (ss.length + 1) (ms ++ [mpv bN]) V₁ → Mem (V'.set b (.row [bv true, xc, x'])) b n c base' (s :: ss) V₀ := by
  obtain ⟨xc, xm, ms, V₁, m1, hb, h1, hle, hA, hF⟩ := (h.new (.mp (dif s base')) hN).apart
  refine ⟨xc, xm, _, V₁, hb, h1, View.le_trans (View.le_self_set (View.le_none h.le hN)) hle, hA, fun V' x' hA2 => ?_⟩
  obtain ⟨Lc, Lm', g1, g2, g3⟩ := hF V' x' _ _ hA2
  have g4 := g3.take (View.le_none h.le hN)
  refine ⟨xc, x', Lc, _, g1, ⟨bN :: ms, Lm', by simp [m1], by simpa using g2, rfl⟩, g4.perm ?_⟩
  simp only [mapsR]
  have := List.perm_middle (a := (bN, AObj.mp (dif s base'))) (l₁ := (b, AObj.row [bv true, xc, x']) :: (Lc ++ Lm')) (l₂ := mapsR s ms ss)
  simpa using this
/-- The mark that has so many older ones. -/
theorem Mem.markAt {b : Nat} {n : Nat → Nat} {c base : Ce} {ss : List Ce} (h : Mem V b n c base ss V₀) {pre suf : List Ce} {s : Ce} (e : ss = pre ++ s :: suf) :
    ∃ (xc : AVal) (bm cm bt : Nat) (cs : List AVal), V b = some (.row [bv true, xc, .v (.slice (some ⟨bm, 0, none⟩) ss.length cm)]) ∧ V bm = some (.rown cs (some (cm * 1))) ∧ rdc true 1 cs (0 + ((suf.length : Nat) : Int).toNat * 1) = some (.agg [mpv bt]) ∧ V bt = some (.mp (dif s ((pre.getLast?).getD base))) := by
  obtain ⟨xc, xm, L1, L2, h1, ⟨ms, Lm, m1, m2, rfl⟩, hO⟩ := h
  have hpos : 0 < ss.length := by rw [e]; simp only [List.length_append, List.length_cons]; omega
  obtain ⟨bm, cm, q1, rfl, q3, rfl⟩ := m2.pos hpos
  have key : ∀ (pre : List Ce) (base : Ce) (ms : List Nat), ms.length = (pre ++ s :: suf).length → ∃ bt, (bt, AObj.mp (dif s ((pre.getLast?).getD base))) ∈ mapsR base ms (pre ++ s :: suf) ∧ ms.reverse[suf.length]? = some bt := by
    intro pre
    induction pre with
    | nil =>
      intro base ms hm
      match ms, hm with
      | bt :: ms, hm =>
        have : ms.length = suf.length := by simpa using hm
        exact ⟨bt, by simp [mapsR], by simp [← this]⟩
    | cons p pre ih =>
      intro base ms hm
      match ms, hm with
      | b0 :: ms, hm =>
        obtain ⟨bt, k1, k2⟩ := ih p ms (by simpa using hm)
        refine ⟨bt, ?_, ?_⟩
        · simp only [List.cons_append, mapsR, List.mem_cons]
          right
          have : ((p :: pre).getLast?).getD base = (pre.getLast?).getD p := by
            cases pre <;> simp [List.getLast?_cons]
          rw [this]; exact k1
        · simp only [List.reverse_cons]
          rw [List.getElem?_append_left]
          · exact k2
          · exact (List.getElem?_eq_some_iff.1 k2).1
  obtain ⟨bt, k1, k2⟩ := key pre base ms (by rw [m1, e])
  refine ⟨xc, bm, cm, bt, ms.reverse.map mpv, hO.mem (by simp), hO.mem (by simp), ?_, hO.mem (by rw [← e] at k1; simp [k1])⟩
  have hlt := (List.getElem?_eq_some_iff.1 k2).1
  have hl2 : suf.length < ms.length := by simpa using hlt
  have e0 : 0 + ((suf.length : Nat) : Int).toNat * 1 = suf.length := by omega
  rw [e0]
  unfold rdc
  simp only [if_true]
  rw [if_pos (by simp; omega)]
  congr 2
  rw [← List.map_drop, List.drop_eq_getElem_cons hlt]
  simp only [List.map_cons, List.take_succ_cons, List.take_zero]
  rw [(List.getElem?_eq_some_iff.1 k2).2]
#print axioms Build.step
#print axioms Mem.markAt
end Go.AV
