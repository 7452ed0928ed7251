/- Cells with marks: marks that come and go, in plain Lean. -/
import Derived.Test.YtapelipehckbcaaMkD
set_option linter.unusedVariables false
set_option linter.unusedSimpArgs false
namespace Go.AV
variable {V V₀ V₁ W : View}
theorem Own.less {L : Blks} (h : Own V V₁ L) (k : V₀.le V₁) : Own V V₀ L := ⟨View.le_trans k h.le, h.nd, h.at_, fun p hp => View.le_none k (h.no p hp)⟩
theorem Own.notin {L : Blks} {b : Nat} {o : AObj} (h : Own V V₀ L) (hb : V₀ b = some o) : ∀ p ∈ L, p.1 ≠ b := by
  intro p hp e
  have := h.no p hp
  rw [e, hb] at this; cases this
/-- What lies in the rest turns. -/
theorem Own.rest {L : Blks} {b : Nat} {o o' : AObj} (h : Own V (V₀.set b o) L) : Own (V.set b o') (V₀.set b o') L := by
  have hn := h.notin (View.set_same _ _ _)
  refine ⟨fun k x hk => ?_, h.nd, fun p hp => by rw [View.set_other _ _ (hn p hp)]; exact h.at_ p hp, fun p hp => by
    rw [View.set_other _ _ (hn p hp)]
    have := h.no p hp
    rwa [View.set_other _ _ (hn p hp)] at this⟩
  by_cases e : k = b
  · subst e; simpa using hk
  · rw [View.set_other _ _ e] at hk ⊢
    exact h.le _ _ (by rw [View.set_other _ _ e]; exact hk)
/-- A new block is laid to the rest. -/
theorem Own.new {L : Blks} {b : Nat} (o : AObj) (h : Own V V₀ L) (hb : V b = none) : Own (V.set b o) (V₀.set b o) L := by
  have hn : ∀ p ∈ L, p.1 ≠ b := by
    intro p hp e
    have := h.at_ p hp
    rw [e, hb] at this; cases this
  exact ⟨View.set_mono h.le _ _, h.nd, fun p hp => by rw [View.set_other _ _ (hn p hp)]; exact h.at_ p hp, fun p hp => by rw [View.set_other _ _ (hn p hp)]; exact h.no p hp⟩
theorem Own.give {A B : Blks} {b : Nat} {o : AObj} (h : Own V V₀ (A ++ (b, o) :: B)) : V₀ b = none ∧ Own V (V₀.set b o) (A ++ B) := by
  have h1 := h.perm (L' := (A ++ B) ++ [(b, o)]) (by simpa using (List.perm_append_left_iff A).2 (List.perm_append_singleton (b, o) B))
  obtain ⟨W, k1, k2⟩ := h1.split
  refine ⟨h.no (b, o) (by simp), k1.less fun k x hk => ?_⟩
  by_cases e : k = b
  · subst e; simp at hk; subst hk; exact k2.mem (by simp)
  · rw [View.set_other _ _ e] at hk; exact k2.le _ _ hk
theorem Own.take {L : Blks} {b : Nat} {o : AObj} (h : Own V (V₀.set b o) L) (hb : V₀ b = none) : Own V V₀ ((b, o) :: L) := by
  have hn := h.notin (View.set_same V₀ b o)
  refine ⟨fun k x hk => h.le _ _ ?_, ?_, fun p hp => ?_, fun p hp => ?_⟩
  · rw [View.set_other _ _ (by rintro rfl; rw [hb] at hk; cases hk)]; exact hk
  · simp only [List.map_cons, List.nodup_cons]
    exact ⟨fun hm => by obtain ⟨p, hp, he⟩ := List.mem_map.1 hm; exact hn p hp he, h.nd⟩
  · rcases List.mem_cons.1 hp with rfl | hp
    · exact h.le _ _ (View.set_same _ _ _)
    · exact h.at_ p hp
  · rcases List.mem_cons.1 hp with rfl | hp
    · exact hb
    · have := h.no p hp; rwa [View.set_other _ _ (hn p hp)] at this

section
variable {b : Nat} {n : Nat → Nat} {c base : Ce} {ss : List Ce}
theorem Mem.less (h : Mem V b n c base ss V₁) (k : V₀.le V₁) : Mem V b n c base ss V₀ := by
  obtain ⟨xc, xm, L1, L2, h1, h2, hO⟩ := h
  exact ⟨xc, xm, L1, L2, h1, h2, hO.less k⟩
theorem Mem.rest {b' : Nat} {o o' : AObj} (h : Mem V b n c base ss (V₀.set b' o)) : Mem (V.set b' o') b n c base ss (V₀.set b' o') := by
  obtain ⟨xc, xm, L1, L2, h1, h2, hO⟩ := h
  exact ⟨xc, xm, L1, L2, h1, h2, hO.rest⟩
theorem Mem.new {b' : Nat} (o : AObj) (h : Mem V b n c base ss V₀) (hb : V b' = none) : Mem (V.set b' o) b n c base ss (V₀.set b' o) := by
  obtain ⟨xc, xm, L1, L2, h1, h2, hO⟩ := h
  exact ⟨xc, xm, L1, L2, h1, h2, hO.new o hb⟩
theorem Mem.le (h : Mem V b n c base ss V₀) : V₀.le V := by
  obtain ⟨xc, xm, L1, L2, h1, h2, hO⟩ := h
  exact hO.le
/-- The marks' slice apart. -/
theorem Mem.apart (h : Mem V b n c base ss V₀) : ∃ xc xm ms V₁, ms.length = ss.length ∧ V b = some (.row [bv true, xc, xm]) ∧ V₁ b = some (.row [bv true, xc, xm]) ∧ V₀.le V₁ ∧ Acc V xm 1 ss.length (ms.reverse.map mpv) V₁ ∧
    ∀ V' x' k cs', Acc V' x' 1 k cs' V₁ → ∃ Lc Lm', Cells xc n c Lc ∧ Part x' 1 k cs' Lm' ∧ Own (V'.set b (.row [bv true, xc, x'])) V₀ ((b, .row [bv true, xc, x']) :: (Lc ++ (Lm' ++ mapsR base ms ss))) := by
  obtain ⟨xc, xm, L1, L2, h1, ⟨ms, Lm, m1, m2, rfl⟩, hO⟩ := h
  have hP := hO.perm (L' := Lm ++ ((b, .row [bv true, xc, xm]) :: (L1 ++ mapsR base ms ss))) (by
    have := List.perm_append_comm_assoc Lm ((b, AObj.row [bv true, xc, xm]) :: L1) (mapsR base ms ss)
    simpa using this)
  obtain ⟨V₁, k1, k2⟩ := m2.acc' hP
  refine ⟨xc, xm, ms, V₁, m1, hO.mem (by simp), k2.mem (by simp), k2.le, k1, fun V' x' k cs' hA => ?_⟩
  obtain ⟨Lm', q1, q2⟩ := acc_part hA
  have q3 := (q2.join k2).set (.row [bv true, xc, x'])
  exact ⟨L1, Lm', h1, q1, q3.perm (by
    have := (List.perm_append_comm_assoc Lm' ((b, AObj.row [bv true, xc, x']) :: L1) (mapsR base ms ss)).symm
    simpa using this)⟩
theorem Mem.popped {s : Ce} {t : List Ce} (h : Mem V b n c base (s :: t) V₀) : ∃ (xc : AVal) (bm cm : Nat) (ms : List Nat) (bt : Nat) (V₁ : View), ms.length = t.length ∧ V b = some (.row [bv true, xc, .v (.slice (some ⟨bm, 0, none⟩) (t.length + 1) cm)]) ∧
    V₁ b = some (.row [bv true, xc, .v (.slice (some ⟨bm, 0, none⟩) (t.length + 1) cm)]) ∧ V bm = some (.rown ((ms.reverse ++ [bt]).map mpv) (some (cm * 1))) ∧ V₀.le V₁ ∧
    Acc V (.v (.slice (some ⟨bm, 0, none⟩) (t.length + 1) cm)) 1 (t.length + 1) ((ms.reverse ++ [bt]).map mpv) V₁ ∧
    ∀ V' x', Acc V' x' 1 t.length (((ms.reverse ++ [bt]).map mpv).take (t.length * 1)) V₁ → V₀ bt = none ∧ Mem (V'.set b (.row [bv true, xc, x'])) b n c s t (V₀.set bt (.mp (dif s base))) := by
  obtain ⟨xc, xm, ms, V₁, m1, hb, h1, hle, hA, hF⟩ := h.apart
  match ms, m1 with
  | bt :: ms, m1 =>
    have m1' : ms.length = t.length := by simpa using m1
    have e : ((bt :: ms).reverse.map mpv) = (ms.reverse ++ [bt]).map mpv := by simp
    rw [e] at hA
    have hA' := hA
    rcases hA with ⟨_, hz, _⟩ | ⟨bm, cm, q1, q2, rfl, q3, q4, q5⟩
    · simp at hz
    · refine ⟨xc, bm, cm, ms, bt, V₁, m1', hb, h1, q4, hle, hA', fun V' x' hA2 => ?_⟩
      obtain ⟨Lc, Lm', g1, g2, g3⟩ := hF V' x' _ _ hA2
      have e3 : ((ms.reverse ++ [bt]).map mpv).take (t.length * 1) = ms.reverse.map mpv := by
        rw [Nat.mul_one, ← m1', List.map_append, List.take_left' (by simp)]
      rw [e3] at g2
      simp only [mapsR] at g3
      have g4 := (Own.give (A := (b, AObj.row [bv true, xc, x']) :: (Lc ++ Lm')) (b := bt) (o := .mp (dif s base)) (B := mapsR s ms t) (by simpa using g3))
      exact ⟨g4.1, xc, x', Lc, _, g1, ⟨ms, Lm', m1', g2, rfl⟩, by simpa using g4.2⟩
theorem Mem.pushed {bN : Nat} (h : Mem V b n c c ss V₀) (hN : V bN = none) : ∃ xc xm ms V₁, (V.set bN (.mp [])) b = some (.row [bv true, xc, xm]) ∧ V₁ b = some (.row [bv true, xc, xm]) ∧ Acc (V.set bN (.mp [])) xm 1 ss.length ms V₁ ∧
    ∀ V' x', Acc V' x' 1 (ss.length + 1) (ms ++ [mpv bN]) V₁ → Mem (V'.set b (.row [bv true, xc, x'])) b n c c (c :: ss) V₀ := by
  obtain ⟨xc, xm, ms, V₁, m1, hb, h1, hle, hA, hF⟩ := (h.new (.mp []) hN).apart
  refine ⟨xc, xm, _, V₁, hb, h1, hA, fun V' x' hA2 => ?_⟩
  obtain ⟨Lc, Lm', g1, g2, g3⟩ := hF V' x' _ _ hA2
  have g4 := g3.take (View.le_none h.le hN)
  refine ⟨xc, x', Lc, _, g1, ⟨bN :: ms, Lm', by simp [m1], by simpa using g2, rfl⟩, g4.perm ?_⟩
  simp only [mapsR, dif_self]
  have h1 : ((b, AObj.row [bv true, xc, x']) :: (Lc ++ (Lm' ++ (bN, AObj.mp []) :: mapsR c ms ss))).Perm ((bN, AObj.mp []) :: (b, AObj.row [bv true, xc, x']) :: (Lc ++ (Lm' ++ mapsR c ms ss))) := by
    have := List.perm_middle (a := (bN, AObj.mp [])) (l₁ := (b, AObj.row [bv true, xc, x']) :: (Lc ++ Lm')) (l₂ := mapsR c ms ss)
    simpa using this
  exact h1
end
#print axioms Mem.popped
#print axioms Mem.pushed
end Go.AV
