import Derived.Test.YtapelipehckbcaaBkB
set_option linter.unusedVariables false
set_option linter.unusedSimpArgs false
namespace Go.AV
/-- What Barrier answers. -/
def barF (A W : Nat → Int) : List AVal :=
  if (failsF A W 0 4).2 ≠ 0 then [.agg (bk zf zf), iv (failsF A W 0 4).1, iv (failsF A W 0 4).2] else [.agg (bk A W), iv (-1), iv 0]
/-- The first charge behind which a book fails. -/
def firstF (A U : Nat → Int) (cs : Ch) : Nat → Nat → Int × Int
  | _, 0 => (-1, 0)
  | i, m + 1 => if (failsF A (run U cs (i + 1)) 0 4).2 ≠ 0 then (i, (failsF A (run U cs (i + 1)) 0 4).2) else firstF A U cs (i + 1) m
def stepsF (A U : Nat → Int) (cs : Ch) : List AVal :=
  if (firstF A U cs 0 cs.length).2 ≠ 0 then [.agg (bk zf zf), iv (firstF A U cs 0 cs.length).1, iv (firstF A U cs 0 cs.length).2] else [.agg (bk A (run U cs cs.length)), iv (-1), iv 0]
end Go.AV
namespace Go.Proofs
open Go.AV
theorem bk_barrier {A U : Nat → Int} {cs : Ch} (hb : okB A U) (hU : small U) (h : okC cs) (V : View) : ACalls Try.prog 11 [.agg (bk A U), .tree 2 (chs cs)] V fun x V' => x = .tuple (barF A (run U cs cs.length)) ∧ V' = V := by
  refine a_fn (fn := Try.f11) Try.func11 rfl ?_ rfl
  refine a_seq (a_region ?_)
  refine a_vp rfl (s_box (ev_t rfl) rfl) fun x V' hx => ?_
  obtain ⟨b2, nb2, rfl, rfl⟩ := hx
  have vb2 : V b2 = none := by simpa [View.set, ] using nb2
  refine a_vp rfl (s_alloc Try.z49) fun x V' hx => ?_
  obtain ⟨b4, nb4, rfl, rfl⟩ := hx
  have eb4b2 : ¬ b4 = b2 := by rintro rfl; simp [View.set, vb2] at nb4
  have eb4b2' : ¬ b2 = b4 := fun h => eb4b2 h.symm
  have vb4 : V b4 = none := by simpa [View.set, vb2, eb4b2, eb4b2'] using nb4
  refine a_v rfl (s_assign ev_c) ?_
  refine a_v rfl (s_assign ev_c) ?_
  refine a_nil ?_
  refine a_seq (a_seq (a_region ?_))
  refine a_v rfl (s_load Try.sh49 (ev_t rfl) (by simp [View.set, View.drop, vb2, eb4b2, eb4b2', vb4] <;> first | exact ⟨rfl, rfl⟩ | exact rfl) bkA) ?_
  refine a_v rfl (s_move (ev_t rfl)) ?_
  refine a_vp rfl (s_call Try.okF41 ev_f (.cons (ev_t rfl) (.cons (ev_t rfl) .nil)) (bk_both hb h _)) fun x V' hx => ?_
  obtain ⟨rfl, rfl⟩ := hx
  refine a_v rfl (s_assign (ev_t rfl)) ?_
  refine a_nil ?_
  refine a_seq (a_region ?_)
  refine a_v rfl (s_move (ev_t rfl)) ?_
  refine a_v rfl (s_cmp (ev_t rfl) ev_c rfl) ?_
  refine a_nil ?_
  refine a_cond (ev_t rfl) (fun hc => ?_) (fun hc => a_skip ?_)
  · exfalso; simp at hc
  refine a_seq (a_seq (a_region ?_))
  refine a_v rfl (s_fieldAddr Try.f49_1 rfl (ev_t rfl)) ?_
  refine a_v rfl (s_load Try.sh24 (ev_t rfl) (by simp [View.set, View.drop, vb2, eb4b2, eb4b2', vb4] <;> first | exact ⟨rfl, rfl⟩ | exact rfl) bkAU) ?_
  refine a_v rfl (s_move (ev_t rfl)) ?_
  refine a_vp rfl (s_call Try.okF42 ev_f (.cons (ev_t rfl) (.cons (ev_t rfl) .nil)) (bk_way0 U cs _)) fun x V' hx => ?_
  obtain ⟨w2, w3, nw2, ew3w2, nw3, rfl, rfl⟩ := hx
  refine a_nil ?_
  have ew3w2' : ¬ w2 = w3 := fun h => ew3w2 h.symm
  have ew2b2 : ¬ w2 = b2 := by rintro rfl; simp [View.set, vb2, eb4b2, eb4b2', vb4] at nw2
  have ew2b2' : ¬ b2 = w2 := fun h => ew2b2 h.symm
  have ew2b4 : ¬ w2 = b4 := by rintro rfl; simp [View.set, vb2, eb4b2, eb4b2', vb4, ew2b2, ew2b2'] at nw2
  have ew2b4' : ¬ b4 = w2 := fun h => ew2b4 h.symm
  have vw2 : V w2 = none := by simpa [View.set, vb2, eb4b2, eb4b2', vb4, ew2b2, ew2b2', ew2b4, ew2b4'] using nw2
  have ew3b2 : ¬ w3 = b2 := by rintro rfl; simp [View.set, vb2, eb4b2, eb4b2', vb4, ew2b2, ew2b2', ew2b4, ew2b4', vw2] at nw3
  have ew3b2' : ¬ b2 = w3 := fun h => ew3b2 h.symm
  have ew3b4 : ¬ w3 = b4 := by rintro rfl; simp [View.set, vb2, eb4b2, eb4b2', vb4, ew2b2, ew2b2', ew2b4, ew2b4', vw2, ew3b2, ew3b2'] at nw3
  have ew3b4' : ¬ b4 = w3 := fun h => ew3b4 h.symm
  have vw3 : V w3 = none := by simpa [View.set, vb2, eb4b2, eb4b2', vb4, ew2b2, ew2b2', ew2b4, ew2b4', vw2, ew3b2, ew3b2', ew3b4, ew3b4'] using nw3
  refine a_block ?_
  refine a_range (fs := []) (cap := [_, _]) Try.okF66 (ev_t rfl) fun L nL => ?_
  generalize hlo : AObj.loop LoopState.ready none _ _ _ _ = lo
  have eLb2 : ¬ L = b2 := by rintro rfl; simp [View.set, vb2, eb4b2, eb4b2', vb4, ew2b2, ew2b2', ew2b4, ew2b4', vw2, ew3b2, ew3b2', ew3b4, ew3b4', vw3, ew3w2, ew3w2'] at nL
  have eLb2' : ¬ b2 = L := fun h => eLb2 h.symm
  have eLb4 : ¬ L = b4 := by rintro rfl; simp [View.set, vb2, eb4b2, eb4b2', vb4, ew2b2, ew2b2', ew2b4, ew2b4', vw2, ew3b2, ew3b2', ew3b4, ew3b4', vw3, ew3w2, ew3w2', eLb2, eLb2'] at nL
  have eLb4' : ¬ b4 = L := fun h => eLb4 h.symm
  have eLw3 : ¬ L = w3 := by rintro rfl; simp [View.set, vb2, eb4b2, eb4b2', vb4, ew2b2, ew2b2', ew2b4, ew2b4', vw2, ew3b2, ew3b2', ew3b4, ew3b4', vw3, ew3w2, ew3w2', eLb2, eLb2', eLb4, eLb4'] at nL
  have eLw3' : ¬ w3 = L := fun h => eLw3 h.symm
  have eLw2 : ¬ L = w2 := by rintro rfl; simp [View.set, vb2, eb4b2, eb4b2', vb4, ew2b2, ew2b2', ew2b4, ew2b4', vw2, ew3b2, ew3b2', ew3b4, ew3b4', vw3, ew3w2, ew3w2', eLb2, eLb2', eLb4, eLb4', eLw3, eLw3'] at nL
  have eLw2' : ¬ w2 = L := fun h => eLw2 h.symm
  have vL : V L = none := by simpa [View.set, vb2, eb4b2, eb4b2', vb4, ew2b2, ew2b2', ew2b4, ew2b4', vw2, ew3b2, ew3b2', ew3b4, ew3b4', vw3, ew3w2, ew3w2', eLb2, eLb2', eLb4, eLb4', eLw3, eLw3', eLw2, eLw2'] using nL
  refine bk_way (fun i V₁ => V₁ L = some lo ∧ V₁ b2 = some (.row (bk A (run U cs i))) ∧ V₁ b4 = some (.row (bk zf zf)) ∧ View.le V V₁) (fun c => V c ≠ none ∨ c = L ∨ c = b2 ∨ c = b4) h hU ?_ ?_ ?_ ?_ ew3w2 ?_ ?_ ?_ ?_ ?_
  · rintro i V₁ V₂ he ⟨k0, k1, k2, kl⟩
    exact ⟨by rw [he _ (by simp)]; exact k0, by rw [he _ (by simp)]; exact k1, by rw [he _ (by simp)]; exact k2, fun c o hc => by rw [he c (.inl (by rw [hc]; simp))]; exact kl c o hc⟩
  · rintro i V₁ ⟨k0, k1, k2, kl⟩ c (hc | rfl | rfl | rfl)
    · intro hn; cases ho : V c with
      | none => exact hc ho
      | some o => rw [kl c o ho] at hn; cases hn
    · rw [k0]; simp
    · rw [k1]; simp
    · rw [k2]; simp
  · simp [vb2, eb4b2, eb4b2', vb4, ew2b2, ew2b2', ew2b4, ew2b4', vw2, ew3b2, ew3b2', ew3b4, ew3b4', vw3, ew3w2, ew3w2', eLb2, eLb2', eLb4, eLb4', eLw3, eLw3', eLw2, eLw2', vL]
  · simp [vb2, eb4b2, eb4b2', vb4, ew2b2, ew2b2', ew2b4, ew2b4', vw2, ew3b2, ew3b2', ew3b4, ew3b4', vw3, ew3w2, ew3w2', eLb2, eLb2', eLb4, eLb4', eLw3, eLw3', eLw2, eLw2', vL]
  · simp [View.set, vb2, eb4b2, eb4b2', vb4, ew2b2, ew2b2', ew2b4, ew2b4', vw2, ew3b2, ew3b2', ew3b4, ew3b4', vw3, ew3w2, ew3w2', eLb2, eLb2', eLb4, eLb4', eLw3, eLw3', eLw2, eLw2', vL]
  · simp [View.set, vb2, eb4b2, eb4b2', vb4, ew2b2, ew2b2', ew2b4, ew2b4', vw2, ew3b2, ew3b2', ew3b4, ew3b4', vw3, ew3w2, ew3w2', eLb2, eLb2', eLb4, eLb4', eLw3, eLw3', eLw2, eLw2', vL] <;> rfl
  · exact ⟨by simp [View.set], by simp [View.set, vb2, eb4b2, eb4b2', vb4, ew2b2, ew2b2', ew2b4, ew2b4', vw2, ew3b2, ew3b2', ew3b4, ew3b4', vw3, ew3w2, ew3w2', eLb2, eLb2', eLb4, eLb4', eLw3, eLw3', eLw2, eLw2', vL] <;> rfl, by simp [View.set, vb2, eb4b2, eb4b2', vb4, ew2b2, ew2b2', ew2b4, ew2b4', vw2, ew3b2, ew3b2', ew3b4, ew3b4', vw3, ew3w2, ew3w2', eLb2, eLb2', eLb4, eLb4', eLw3, eLw3', eLw2, eLw2', vL] <;> rfl, by repeat (first | exact View.le_refl _ | refine View.le_set ?_ (by assumption))⟩
  · rintro i V₁ hi ⟨k0, k1, k2, kl⟩ g3 g2
    refine a_round (pend := none) (by rw [k0, ← hlo]) rfl rfl ?_
    refine a_region ?_
    refine a_vp rfl (s_alloc Try.z24) fun x V' hx => ?_
    obtain ⟨b9, nb9, rfl, rfl⟩ := hx
    have eb9L : ¬ b9 = L := by rintro rfl; simp [View.set, k0, k1, k2, g3, g2, eb4b2, eb4b2', ew2b2, ew2b2', ew2b4, ew2b4', ew3b2, ew3b2', ew3b4, ew3b4', ew3w2, ew3w2', eLb2, eLb2', eLb4, eLb4', eLw3, eLw3', eLw2, eLw2'] at nb9
    have eb9L' : ¬ L = b9 := fun h => eb9L h.symm
    have eb9b4 : ¬ b9 = b4 := by rintro rfl; simp [View.set, k0, k1, k2, g3, g2, eb4b2, eb4b2', ew2b2, ew2b2', ew2b4, ew2b4', ew3b2, ew3b2', ew3b4, ew3b4', ew3w2, ew3w2', eLb2, eLb2', eLb4, eLb4', eLw3, eLw3', eLw2, eLw2', eb9L, eb9L'] at nb9
    have eb9b4' : ¬ b4 = b9 := fun h => eb9b4 h.symm
    have eb9b2 : ¬ b9 = b2 := by rintro rfl; simp [View.set, k0, k1, k2, g3, g2, eb4b2, eb4b2', ew2b2, ew2b2', ew2b4, ew2b4', ew3b2, ew3b2', ew3b4, ew3b4', ew3w2, ew3w2', eLb2, eLb2', eLb4, eLb4', eLw3, eLw3', eLw2, eLw2', eb9L, eb9L', eb9b4, eb9b4'] at nb9
    have eb9b2' : ¬ b2 = b9 := fun h => eb9b2 h.symm
    have eb9w2 : ¬ b9 = w2 := by rintro rfl; simp [View.set, k0, k1, k2, g3, g2, eb4b2, eb4b2', ew2b2, ew2b2', ew2b4, ew2b4', ew3b2, ew3b2', ew3b4, ew3b4', ew3w2, ew3w2', eLb2, eLb2', eLb4, eLb4', eLw3, eLw3', eLw2, eLw2', eb9L, eb9L', eb9b4, eb9b4', eb9b2, eb9b2'] at nb9
    have eb9w2' : ¬ w2 = b9 := fun h => eb9w2 h.symm
    have eb9w3 : ¬ b9 = w3 := by rintro rfl; simp [View.set, k0, k1, k2, g3, g2, eb4b2, eb4b2', ew2b2, ew2b2', ew2b4, ew2b4', ew3b2, ew3b2', ew3b4, ew3b4', ew3w2, ew3w2', eLb2, eLb2', eLb4, eLb4', eLw3, eLw3', eLw2, eLw2', eb9L, eb9L', eb9b4, eb9b4', eb9b2, eb9b2', eb9w2, eb9w2'] at nb9
    have eb9w3' : ¬ w3 = b9 := fun h => eb9w3 h.symm
    have vb9 : V₁ b9 = none := by simpa [View.set, k0, k1, k2, g3, g2, eb4b2, eb4b2', ew2b2, ew2b2', ew2b4, ew2b4', ew3b2, ew3b2', ew3b4, ew3b4', ew3w2, ew3w2', eLb2, eLb2', eLb4, eLb4', eLw3, eLw3', eLw2, eLw2', eb9L, eb9L', eb9b4, eb9b4', eb9b2, eb9b2', eb9w2, eb9w2', eb9w3, eb9w3'] using nb9
    refine a_s (s_store Try.sh24 (ev_t rfl) (ev_t rfl) (by simp [View.set, View.drop, k0, k1, k2, g3, g2, eb4b2, eb4b2', ew2b2, ew2b2', ew2b4, ew2b4', ew3b2, ew3b2', ew3b4, ew3b4', ew3w2, ew3w2', eLb2, eLb2', eLb4, eLb4', eLw3, eLw3', eLw2, eLw2', eb9L, eb9L', eb9b4, eb9b4', eb9b2, eb9b2', eb9w2, eb9w2', eb9w3, eb9w3', vb9] <;> first | exact ⟨rfl, rfl⟩ | exact rfl) rfl rfl (by first | decide | (simp [ints, four]; done) | (simp [ints, four]; omega))) ?_
    refine a_nil ?_
    refine ⟨by rw [hlo]; simp [View.set, k0, k1, k2, g3, g2, eb4b2, eb4b2', ew2b2, ew2b2', ew2b4, ew2b4', ew3b2, ew3b2', ew3b4, ew3b4', ew3w2, ew3w2', eLb2, eLb2', eLb4, eLb4', eLw3, eLw3', eLw2, eLw2', eb9L, eb9L', eb9b4, eb9b4', eb9b2, eb9b2', eb9w2, eb9w2', eb9w3, eb9w3', vb9], ?_⟩
    refine a_block ?_
    refine a_region ?_
    refine a_v rfl (s_load Try.sh24 (ev_t rfl) (by simp [View.set, View.drop, k0, k1, k2, g3, g2, eb4b2, eb4b2', ew2b2, ew2b2', ew2b4, ew2b4', ew3b2, ew3b2', ew3b4, ew3b4', ew3w2, ew3w2', eLb2, eLb2', eLb4, eLb4', eLw3, eLw3', eLw2, eLw2', eb9L, eb9L', eb9b4, eb9b4', eb9b2, eb9b2', eb9w2, eb9w2', eb9w3, eb9w3', vb9] <;> first | exact ⟨rfl, rfl⟩ | exact rfl) rdA) ?_
    refine a_v rfl (s_fieldAddr Try.f49_1 rfl (ev_t rfl)) ?_
    refine a_s (s_storew Try.sh24 (ev_t rfl) (ev_t rfl) (by simp [View.set, View.drop, k0, k1, k2, g3, g2, eb4b2, eb4b2', ew2b2, ew2b2', ew2b4, ew2b4', ew3b2, ew3b2', ew3b4, ew3b4', ew3w2, ew3w2', eLb2, eLb2', eLb4, eLb4', eLw3, eLw3', eLw2, eLw2', eb9L, eb9L', eb9b4, eb9b4', eb9b2, eb9b2', eb9w2, eb9w2', eb9w3, eb9w3', vb9] <;> first | exact ⟨rfl, rfl⟩ | exact rfl) rfl rfl (by first | decide | (simp [ints, four]; done) | (simp [ints, four]; omega)) wrUA) ?_
    refine a_nil ?_
    refine ⟨⟨.busy, none, by simp [View.set, k0, k1, k2, g3, g2, eb4b2, eb4b2', ew2b2, ew2b2', ew2b4, ew2b4', ew3b2, ew3b2', ew3b4, ew3b4', ew3w2, ew3w2', eLb2, eLb2', eLb4, eLb4', eLw3, eLw3', eLw2, eLw2', eb9L, eb9L', eb9b4, eb9b4', eb9b2, eb9b2', eb9w2, eb9w2', eb9w3, eb9w3', vb9]⟩, by simp [View.set, k0, k1, k2, g3, g2, eb4b2, eb4b2', ew2b2, ew2b2', ew2b4, ew2b4', ew3b2, ew3b2', ew3b4, ew3b4', ew3w2, ew3w2', eLb2, eLb2', eLb4, eLb4', eLw3, eLw3', eLw2, eLw2', eb9L, eb9L', eb9b4, eb9b4', eb9b2, eb9b2', eb9w2, eb9w2', eb9w3, eb9w3', vb9], by simp [View.set, k0, k1, k2, g3, g2, eb4b2, eb4b2', ew2b2, ew2b2', ew2b4, ew2b4', ew3b2, ew3b2', ew3b4, ew3b4', ew3w2, ew3w2', eLb2, eLb2', eLb4, eLb4', eLw3, eLw3', eLw2, eLw2', eb9L, eb9L', eb9b4, eb9b4', eb9b2, eb9b2', eb9w2, eb9w2', eb9w3, eb9w3', vb9], true, rfl, fun _ => ⟨(View.set_same _ _ _).trans (congrArg some hlo), by simp [View.set, k0, k1, k2, g3, g2, eb4b2, eb4b2', ew2b2, ew2b2', ew2b4, ew2b4', ew3b2, ew3b2', ew3b4, ew3b4', ew3w2, ew3w2', eLb2, eLb2', eLb4, eLb4', eLw3, eLw3', eLw2, eLw2', eb9L, eb9L', eb9b4, eb9b4', eb9b2, eb9b2', eb9w2, eb9w2', eb9w3, eb9w3', vb9] <;> rfl, by simp [View.set, k0, k1, k2, g3, g2, eb4b2, eb4b2', ew2b2, ew2b2', ew2b4, ew2b4', ew3b2, ew3b2', ew3b4, ew3b4', ew3w2, ew3w2', eLb2, eLb2', eLb4, eLb4', eLw3, eLw3', eLw2, eLw2', eb9L, eb9L', eb9b4, eb9b4', eb9b2, eb9b2', eb9w2, eb9w2', eb9w3, eb9w3', vb9] <;> rfl, ?_⟩, fun h => by cases h⟩
    repeat refine View.le_set ?_ ?_
    all_goals first | assumption | exact View.le_none kl (by assumption)
  · rintro V₁ ⟨k0, k1, k2, kl⟩
    refine ⟨.ready, none, by rw [k0, ← hlo], by simp, ?_⟩
    refine a_seq (a_seq (a_region ?_))
    refine a_v rfl (s_load Try.sh49 (ev_t rfl) (by simp [View.set, View.drop, k0, k1, k2, vb2, eb4b2, eb4b2', vb4, ew2b2, ew2b2', ew2b4, ew2b4', vw2, ew3b2, ew3b2', ew3b4, ew3b4', vw3, ew3w2, ew3w2', eLb2, eLb2', eLb4, eLb4', eLw3, eLw3', eLw2, eLw2', vL] <;> first | exact ⟨rfl, rfl⟩ | exact rfl) bkA) ?_
    refine a_vp rfl (s_call Try.okF43 ev_f (.cons (ev_t rfl) .nil) (bk_fails A (run U cs cs.length) _)) fun x V' hx => ?_
    obtain ⟨rfl, rfl⟩ := hx
    refine a_v rfl (s_move (ev_t rfl)) ?_
    refine a_v rfl (s_extract (ev_t rfl) rfl) ?_
    refine a_v rfl (s_extract (ev_t rfl) rfl) ?_
    refine a_v rfl (s_assign (ev_t rfl)) ?_
    refine a_v rfl (s_assign (ev_t rfl)) ?_
    refine a_nil ?_
    refine a_seq (a_region ?_)
    refine a_v rfl (s_move (ev_t rfl)) ?_
    refine a_v rfl (s_cmp (ev_t rfl) ev_c rfl) ?_
    refine a_nil ?_
    refine a_cond (ev_t rfl) (fun hc => ?_) (fun hc => a_skip ?_)
    · have hf : (failsF A (run U cs cs.length) 0 4).2 ≠ 0 := by simpa using hc
      refine a_seq (a_region ?_)
      refine a_v rfl (s_build Try.z49 Try.pl49 .nil rfl) ?_
      refine a_v rfl (s_move (ev_t rfl)) ?_
      refine a_v rfl (s_move (ev_t rfl)) ?_
      refine a_s (s_store Try.sh49 (ev_t rfl) (ev_t rfl) (by simp [View.set, View.drop, k0, k1, k2, vb2, eb4b2, eb4b2', vb4, ew2b2, ew2b2', ew2b4, ew2b4', vw2, ew3b2, ew3b2', ew3b4, ew3b4', vw3, ew3w2, ew3w2', eLb2, eLb2', eLb4, eLb4', eLw3, eLw3', eLw2, eLw2', vL] <;> first | exact ⟨rfl, rfl⟩ | exact rfl) rfl rfl (by first | decide | (simp [ints, four]; done) | (simp [ints, four]; omega))) ?_
      refine a_v rfl (s_assign (ev_t rfl)) ?_
      refine a_v rfl (s_assign (ev_t rfl)) ?_
      refine a_nil ?_
      refine a_ret ?_
      exact ⟨[_, _, _], V, ⟨_, _, true, 8, b4, 0, bk zf zf, none, rfl, Try.sh49, ev_t rfl, by simp [View.set, View.drop, k0, k1, k2, vb2, eb4b2, eb4b2', vb4, ew2b2, ew2b2', ew2b4, ew2b4', vw2, ew3b2, ew3b2', ew3b4, ew3b4', vw3, ew3w2, ew3w2', eLb2, eLb2', eLb4, eLb4', eLw3, eLw3', eLw2, eLw2', vL] <;> rfl, bkA, _, _, rfl, ev_t rfl, _, _, rfl, ev_t rfl, rfl⟩, View.le_set (View.le_drop kl vL) vb4, by rw [barF, if_pos hf]; rfl, rfl⟩
    have hf : ¬ (failsF A (run U cs cs.length) 0 4).2 ≠ 0 := by simpa using hc
    refine a_seq (a_region ?_)
    refine a_v rfl (s_load Try.sh49 (ev_t rfl) (by simp [View.set, View.drop, k0, k1, k2, vb2, eb4b2, eb4b2', vb4, ew2b2, ew2b2', ew2b4, ew2b4', vw2, ew3b2, ew3b2', ew3b4, ew3b4', vw3, ew3w2, ew3w2', eLb2, eLb2', eLb4, eLb4', eLw3, eLw3', eLw2, eLw2', vL] <;> first | exact ⟨rfl, rfl⟩ | exact rfl) bkA) ?_
    refine a_s (s_storew Try.sh49 (ev_t rfl) (ev_t rfl) (by simp [View.set, View.drop, k0, k1, k2, vb2, eb4b2, eb4b2', vb4, ew2b2, ew2b2', ew2b4, ew2b4', vw2, ew3b2, ew3b2', ew3b4, ew3b4', vw3, ew3w2, ew3w2', eLb2, eLb2', eLb4, eLb4', eLw3, eLw3', eLw2, eLw2', vL] <;> first | exact ⟨rfl, rfl⟩ | exact rfl) rfl rfl (by first | decide | (simp [ints, four]; done) | (simp [ints, four]; omega)) wrBA) ?_
    refine a_v rfl (s_assign ev_c) ?_
    refine a_v rfl (s_assign ev_c) ?_
    refine a_nil ?_
    refine a_ret ?_
    exact ⟨[_, _, _], V, ⟨_, _, true, 8, b4, 0, bk A (run U cs cs.length), none, rfl, Try.sh49, ev_t rfl, by simp [View.set, View.drop, k0, k1, k2, vb2, eb4b2, eb4b2', vb4, ew2b2, ew2b2', ew2b4, ew2b4', vw2, ew3b2, ew3b2', ew3b4, ew3b4', vw3, ew3w2, ew3w2', eLb2, eLb2', eLb4, eLb4', eLw3, eLw3', eLw2, eLw2', vL] <;> rfl, bkA, _, _, rfl, ev_t rfl, _, _, rfl, ev_t rfl, rfl⟩, View.le_set (View.le_drop kl vL) vb4, by rw [barF, if_neg hf]; rfl, rfl⟩
#print axioms bk_barrier
theorem bk_steps {A U : Nat → Int} {cs : Ch} (hb : okB A U) (hU : small U) (h : okC cs) (V : View) : ACalls Try.prog 10 [.agg (bk A U), .tree 2 (chs cs)] V fun x V' => x = .tuple (stepsF A U cs) ∧ V' = V := by
  refine a_fn (fn := Try.f10) Try.func10 rfl ?_ rfl
  refine a_seq (a_region ?_)
  refine a_vp rfl (s_box (ev_t rfl) rfl) fun x V' hx => ?_
  obtain ⟨b2, nb2, rfl, rfl⟩ := hx
  have vb2 : V b2 = none := by simpa [View.set, ] using nb2
  refine a_vp rfl (s_alloc Try.z49) fun x V' hx => ?_
  obtain ⟨b4, nb4, rfl, rfl⟩ := hx
  have eb4b2 : ¬ b4 = b2 := by rintro rfl; simp [View.set, vb2] at nb4
  have eb4b2' : ¬ b2 = b4 := fun h => eb4b2 h.symm
  have vb4 : V b4 = none := by simpa [View.set, vb2, eb4b2, eb4b2'] using nb4
  refine a_v rfl (s_assign ev_c) ?_
  refine a_v rfl (s_assign ev_c) ?_
  refine a_nil ?_
  refine a_scope ?_
  refine a_seq (a_seq (a_region ?_))
  refine a_v rfl (s_load Try.sh49 (ev_t rfl) (by simp [View.set, View.drop, vb2, eb4b2, eb4b2', vb4] <;> first | exact ⟨rfl, rfl⟩ | exact rfl) bkA) ?_
  refine a_v rfl (s_move (ev_t rfl)) ?_
  refine a_vp rfl (s_call Try.okF41 ev_f (.cons (ev_t rfl) (.cons (ev_t rfl) .nil)) (bk_both hb h _)) fun x V' hx => ?_
  obtain ⟨rfl, rfl⟩ := hx
  refine a_v rfl (s_assign (ev_t rfl)) ?_
  refine a_nil ?_
  refine a_seq (a_region ?_)
  refine a_v rfl (s_move (ev_t rfl)) ?_
  refine a_v rfl (s_cmp (ev_t rfl) ev_c rfl) ?_
  refine a_nil ?_
  refine a_cond (ev_t rfl) (fun hc => ?_) (fun hc => a_skip ?_)
  · exfalso; simp at hc
  refine a_seq (a_region ?_)
  refine a_vp rfl (s_alloc Try.z3) fun x V' hx => ?_
  obtain ⟨b8, nb8, rfl, rfl⟩ := hx
  have eb8b2 : ¬ b8 = b2 := by rintro rfl; simp [View.set, vb2, eb4b2, eb4b2', vb4] at nb8
  have eb8b2' : ¬ b2 = b8 := fun h => eb8b2 h.symm
  have eb8b4 : ¬ b8 = b4 := by rintro rfl; simp [View.set, vb2, eb4b2, eb4b2', vb4, eb8b2, eb8b2'] at nb8
  have eb8b4' : ¬ b4 = b8 := fun h => eb8b4 h.symm
  have vb8 : V b8 = none := by simpa [View.set, vb2, eb4b2, eb4b2', vb4, eb8b2, eb8b2', eb8b4, eb8b4'] using nb8
  refine a_vp rfl (s_alloc Try.z53) fun x V' hx => ?_
  obtain ⟨b9, nb9, rfl, rfl⟩ := hx
  have eb9b2 : ¬ b9 = b2 := by rintro rfl; simp [View.set, vb2, eb4b2, eb4b2', vb4, eb8b2, eb8b2', eb8b4, eb8b4', vb8] at nb9
  have eb9b2' : ¬ b2 = b9 := fun h => eb9b2 h.symm
  have eb9b4 : ¬ b9 = b4 := by rintro rfl; simp [View.set, vb2, eb4b2, eb4b2', vb4, eb8b2, eb8b2', eb8b4, eb8b4', vb8, eb9b2, eb9b2'] at nb9
  have eb9b4' : ¬ b4 = b9 := fun h => eb9b4 h.symm
  have eb9b8 : ¬ b9 = b8 := by rintro rfl; simp [View.set, vb2, eb4b2, eb4b2', vb4, eb8b2, eb8b2', eb8b4, eb8b4', vb8, eb9b2, eb9b2', eb9b4, eb9b4'] at nb9
  have eb9b8' : ¬ b8 = b9 := fun h => eb9b8 h.symm
  have vb9 : V b9 = none := by simpa [View.set, vb2, eb4b2, eb4b2', vb4, eb8b2, eb8b2', eb8b4, eb8b4', vb8, eb9b2, eb9b2', eb9b4, eb9b4', eb9b8, eb9b8'] using nb9
  refine a_s (s_store Try.sh3 (ev_t rfl) ev_c (by simp [View.set, View.drop, vb2, eb4b2, eb4b2', vb4, eb8b2, eb8b2', eb8b4, eb8b4', vb8, eb9b2, eb9b2', eb9b4, eb9b4', eb9b8, eb9b8', vb9] <;> first | exact ⟨rfl, rfl⟩ | exact rfl) rfl rfl (by first | decide | (simp [ints, four]; done) | (simp [ints, four]; omega))) ?_
  refine a_s (s_store Try.sh53 (ev_t rfl) ev_c (by simp [View.set, View.drop, vb2, eb4b2, eb4b2', vb4, eb8b2, eb8b2', eb8b4, eb8b4', vb8, eb9b2, eb9b2', eb9b4, eb9b4', eb9b8, eb9b8', vb9] <;> first | exact ⟨rfl, rfl⟩ | exact rfl) rfl rfl (by first | decide | (simp [ints, four]; done) | (simp [ints, four]; omega))) ?_
  refine a_nil ?_
  refine a_seq (a_label ?_)
  refine a_cut (fun st V₁ => ∃ (l : List (Nat × AVal)) (W : Nat → Int), st = ⟨l, 41⟩ ∧ SubT [(9, pt b9 0), (8, pt b8 0), (4, pt b4 0), (2, pt b2 0)] l ∧ V₁ b9 = some (.row [iv (firstF A U cs 0 cs.length).2]) ∧
    V₁ b8 = some (.row [iv (firstF A U cs 0 cs.length).1]) ∧ V₁ b4 = some (.row (bk zf zf)) ∧ V₁ b2 = some (.row (bk A W)) ∧ View.le V V₁ ∧ ((firstF A U cs 0 cs.length).2 = 0 → W = run U cs cs.length)) ?_ ?_
  rotate_left
  · rintro st V₁ ⟨l, W, rfl, hs, k9, k8, k4, k2, kl, hW⟩
    refine a_forget hs ?_
    refine a_seq (a_seq (a_region ?_))
    refine a_v rfl (s_load Try.sh53 (ev_t rfl) (by simp [View.set, View.drop, k9, k8, k4, k2, eb4b2, eb4b2', eb8b2, eb8b2', eb8b4, eb8b4', eb9b2, eb9b2', eb9b4, eb9b4', eb9b8, eb9b8'] <;> first | exact ⟨rfl, rfl⟩ | exact rfl) rfl) ?_
    refine a_v rfl (s_cmp (ev_t rfl) ev_c rfl) ?_
    refine a_nil ?_
    refine a_cond (ev_t rfl) (fun hc => ?_) (fun hc => a_skip ?_)
    · have hf : (firstF A U cs 0 cs.length).2 ≠ 0 := by simpa using hc
      refine a_seq (a_draw [false, false, false, true, false, false] ((V₁.drop b4)) Try.mixed rfl rfl (View.drop_le _ _) ?_)
      refine d_v (fun V' hU => f_plain rfl (s_build Try.z49 Try.pl49 .nil rfl)) ?_
      refine d_v (fun V' hU => f_plain rfl (s_load Try.sh3 (ev_o rfl rfl) (hU _ _ (by simp [View.set, View.drop, k9, k8, k4, k2, eb4b2, eb4b2', eb8b2, eb8b2', eb8b4, eb8b4', eb9b2, eb9b2', eb9b4, eb9b4', eb9b8, eb9b8'] <;> first | exact ⟨rfl, rfl⟩ | exact rfl)) rfl)) ?_
      refine d_v (fun V' hU => f_plain rfl (s_load Try.sh53 (ev_o rfl rfl) (hU _ _ (by simp [View.set, View.drop, k9, k8, k4, k2, eb4b2, eb4b2', eb8b2, eb8b2', eb8b4, eb8b4', eb9b2, eb9b2', eb9b4, eb9b4', eb9b8, eb9b8'] <;> first | exact ⟨rfl, rfl⟩ | exact rfl)) rfl)) ?_
      first | refine d_b (s_store Try.sh49 (ev_o rfl rfl) (ev_o rfl rfl) (by simp [View.set, View.drop, k9, k8, k4, k2, eb4b2, eb4b2', eb8b2, eb8b2', eb8b4, eb8b4', eb9b2, eb9b2', eb9b4, eb9b4', eb9b8, eb9b8'] <;> first | exact ⟨rfl, rfl⟩ | exact rfl) rfl rfl (by first | decide | (simp [ints, four]; done) | (simp [ints, four]; omega))) rfl _ (View.le_refl _) ?_ | refine d_e (s_store Try.sh49 (ev_o rfl rfl) (ev_o rfl rfl) (by simp [View.set, View.drop, k9, k8, k4, k2, eb4b2, eb4b2', eb8b2, eb8b2', eb8b4, eb8b4', eb9b2, eb9b2', eb9b4, eb9b4', eb9b8, eb9b8'] <;> first | exact ⟨rfl, rfl⟩ | exact rfl) rfl rfl (by first | decide | (simp [ints, four]; done) | (simp [ints, four]; omega))) (View.le_set (View.drop_le _ _) (View.drop_same _ _)) ?_
      refine d_v (fun V' hU => f_plain rfl (s_assign (ev_o rfl rfl))) ?_
      refine d_v (fun V' hU => f_plain rfl (s_assign (ev_o rfl rfl))) ?_
      refine d_nil ?_
      refine a_ret ?_
      exact ⟨[_, _, _], V, ⟨_, _, true, 8, b4, 0, bk zf zf, none, rfl, Try.sh49, ev_t rfl, by simp [View.set, View.drop, k9, k8, k4, k2, eb4b2, eb4b2', eb8b2, eb8b2', eb8b4, eb8b4', eb9b2, eb9b2', eb9b4, eb9b4', eb9b8, eb9b8'] <;> rfl, bkA, _, _, rfl, ev_t rfl, _, _, rfl, ev_t rfl, rfl⟩, View.le_set kl vb4, by rw [stepsF, if_pos hf]; rfl, rfl⟩
    have hf : ¬ (firstF A U cs 0 cs.length).2 ≠ 0 := by simpa using hc
    have hW' := hW (by simpa using hc)
    subst hW'
    refine a_seq (a_region ?_)
    refine a_v rfl (s_load Try.sh49 (ev_t rfl) (by simp [View.set, View.drop, k9, k8, k4, k2, eb4b2, eb4b2', eb8b2, eb8b2', eb8b4, eb8b4', eb9b2, eb9b2', eb9b4, eb9b4', eb9b8, eb9b8'] <;> first | exact ⟨rfl, rfl⟩ | exact rfl) bkA) ?_
    refine a_s (s_storew Try.sh49 (ev_t rfl) (ev_t rfl) (by simp [View.set, View.drop, k9, k8, k4, k2, eb4b2, eb4b2', eb8b2, eb8b2', eb8b4, eb8b4', eb9b2, eb9b2', eb9b4, eb9b4', eb9b8, eb9b8'] <;> first | exact ⟨rfl, rfl⟩ | exact rfl) rfl rfl (by first | decide | (simp [ints, four]; done) | (simp [ints, four]; omega)) wrBA) ?_
    refine a_v rfl (s_assign ev_c) ?_
    refine a_v rfl (s_assign ev_c) ?_
    refine a_nil ?_
    refine a_ret ?_
    exact ⟨[_, _, _], V, ⟨_, _, true, 8, b4, 0, bk A (run U cs cs.length), none, rfl, Try.sh49, ev_t rfl, by simp [View.set, View.drop, k9, k8, k4, k2, eb4b2, eb4b2', eb8b2, eb8b2', eb8b4, eb8b4', eb9b2, eb9b2', eb9b4, eb9b4', eb9b8, eb9b8'] <;> rfl, bkA, _, _, rfl, ev_t rfl, _, _, rfl, ev_t rfl, rfl⟩, View.le_set kl vb4, by rw [stepsF, if_neg hf]; rfl, rfl⟩
  refine a_seq (a_region ?_)
  refine a_v rfl (s_fieldAddr Try.f49_1 rfl (ev_t rfl)) ?_
  refine a_v rfl (s_load Try.sh24 (ev_t rfl) (by simp [View.set, View.drop, vb2, eb4b2, eb4b2', vb4, eb8b2, eb8b2', eb8b4, eb8b4', vb8, eb9b2, eb9b2', eb9b4, eb9b4', eb9b8, eb9b8', vb9] <;> first | exact ⟨rfl, rfl⟩ | exact rfl) bkAU) ?_
  refine a_v rfl (s_move (ev_t rfl)) ?_
  refine a_vp rfl (s_call Try.okF42 ev_f (.cons (ev_t rfl) (.cons (ev_t rfl) .nil)) (bk_way0 U cs _)) fun x V' hx => ?_
  obtain ⟨w2, w3, nw2, ew3w2, nw3, rfl, rfl⟩ := hx
  refine a_nil ?_
  have ew3w2' : ¬ w2 = w3 := fun h => ew3w2 h.symm
  have ew2b2 : ¬ w2 = b2 := by rintro rfl; simp [View.set, vb2, eb4b2, eb4b2', vb4, eb8b2, eb8b2', eb8b4, eb8b4', vb8, eb9b2, eb9b2', eb9b4, eb9b4', eb9b8, eb9b8', vb9] at nw2
  have ew2b2' : ¬ b2 = w2 := fun h => ew2b2 h.symm
  have ew2b4 : ¬ w2 = b4 := by rintro rfl; simp [View.set, vb2, eb4b2, eb4b2', vb4, eb8b2, eb8b2', eb8b4, eb8b4', vb8, eb9b2, eb9b2', eb9b4, eb9b4', eb9b8, eb9b8', vb9, ew2b2, ew2b2'] at nw2
  have ew2b4' : ¬ b4 = w2 := fun h => ew2b4 h.symm
  have ew2b8 : ¬ w2 = b8 := by rintro rfl; simp [View.set, vb2, eb4b2, eb4b2', vb4, eb8b2, eb8b2', eb8b4, eb8b4', vb8, eb9b2, eb9b2', eb9b4, eb9b4', eb9b8, eb9b8', vb9, ew2b2, ew2b2', ew2b4, ew2b4'] at nw2
  have ew2b8' : ¬ b8 = w2 := fun h => ew2b8 h.symm
  have ew2b9 : ¬ w2 = b9 := by rintro rfl; simp [View.set, vb2, eb4b2, eb4b2', vb4, eb8b2, eb8b2', eb8b4, eb8b4', vb8, eb9b2, eb9b2', eb9b4, eb9b4', eb9b8, eb9b8', vb9, ew2b2, ew2b2', ew2b4, ew2b4', ew2b8, ew2b8'] at nw2
  have ew2b9' : ¬ b9 = w2 := fun h => ew2b9 h.symm
  have vw2 : V w2 = none := by simpa [View.set, vb2, eb4b2, eb4b2', vb4, eb8b2, eb8b2', eb8b4, eb8b4', vb8, eb9b2, eb9b2', eb9b4, eb9b4', eb9b8, eb9b8', vb9, ew2b2, ew2b2', ew2b4, ew2b4', ew2b8, ew2b8', ew2b9, ew2b9'] using nw2
  have ew3b2 : ¬ w3 = b2 := by rintro rfl; simp [View.set, vb2, eb4b2, eb4b2', vb4, eb8b2, eb8b2', eb8b4, eb8b4', vb8, eb9b2, eb9b2', eb9b4, eb9b4', eb9b8, eb9b8', vb9, ew2b2, ew2b2', ew2b4, ew2b4', ew2b8, ew2b8', ew2b9, ew2b9', vw2] at nw3
  have ew3b2' : ¬ b2 = w3 := fun h => ew3b2 h.symm
  have ew3b4 : ¬ w3 = b4 := by rintro rfl; simp [View.set, vb2, eb4b2, eb4b2', vb4, eb8b2, eb8b2', eb8b4, eb8b4', vb8, eb9b2, eb9b2', eb9b4, eb9b4', eb9b8, eb9b8', vb9, ew2b2, ew2b2', ew2b4, ew2b4', ew2b8, ew2b8', ew2b9, ew2b9', vw2, ew3b2, ew3b2'] at nw3
  have ew3b4' : ¬ b4 = w3 := fun h => ew3b4 h.symm
  have ew3b8 : ¬ w3 = b8 := by rintro rfl; simp [View.set, vb2, eb4b2, eb4b2', vb4, eb8b2, eb8b2', eb8b4, eb8b4', vb8, eb9b2, eb9b2', eb9b4, eb9b4', eb9b8, eb9b8', vb9, ew2b2, ew2b2', ew2b4, ew2b4', ew2b8, ew2b8', ew2b9, ew2b9', vw2, ew3b2, ew3b2', ew3b4, ew3b4'] at nw3
  have ew3b8' : ¬ b8 = w3 := fun h => ew3b8 h.symm
  have ew3b9 : ¬ w3 = b9 := by rintro rfl; simp [View.set, vb2, eb4b2, eb4b2', vb4, eb8b2, eb8b2', eb8b4, eb8b4', vb8, eb9b2, eb9b2', eb9b4, eb9b4', eb9b8, eb9b8', vb9, ew2b2, ew2b2', ew2b4, ew2b4', ew2b8, ew2b8', ew2b9, ew2b9', vw2, ew3b2, ew3b2', ew3b4, ew3b4', ew3b8, ew3b8'] at nw3
  have ew3b9' : ¬ b9 = w3 := fun h => ew3b9 h.symm
  have vw3 : V w3 = none := by simpa [View.set, vb2, eb4b2, eb4b2', vb4, eb8b2, eb8b2', eb8b4, eb8b4', vb8, eb9b2, eb9b2', eb9b4, eb9b4', eb9b8, eb9b8', vb9, ew2b2, ew2b2', ew2b4, ew2b4', ew2b8, ew2b8', ew2b9, ew2b9', vw2, ew3b2, ew3b2', ew3b4, ew3b4', ew3b8, ew3b8', ew3b9, ew3b9'] using nw3
  refine a_block ?_
  refine a_range (fs := []) (cap := [_, _]) Try.okF66 (ev_t rfl) fun L nL => ?_
  generalize hlo : AObj.loop LoopState.ready none _ _ _ _ = lo
  have eLb2 : ¬ L = b2 := by rintro rfl; simp [View.set, vb2, eb4b2, eb4b2', vb4, eb8b2, eb8b2', eb8b4, eb8b4', vb8, eb9b2, eb9b2', eb9b4, eb9b4', eb9b8, eb9b8', vb9, ew2b2, ew2b2', ew2b4, ew2b4', ew2b8, ew2b8', ew2b9, ew2b9', vw2, ew3b2, ew3b2', ew3b4, ew3b4', ew3b8, ew3b8', ew3b9, ew3b9', vw3, ew3w2, ew3w2'] at nL
  have eLb2' : ¬ b2 = L := fun h => eLb2 h.symm
  have eLb4 : ¬ L = b4 := by rintro rfl; simp [View.set, vb2, eb4b2, eb4b2', vb4, eb8b2, eb8b2', eb8b4, eb8b4', vb8, eb9b2, eb9b2', eb9b4, eb9b4', eb9b8, eb9b8', vb9, ew2b2, ew2b2', ew2b4, ew2b4', ew2b8, ew2b8', ew2b9, ew2b9', vw2, ew3b2, ew3b2', ew3b4, ew3b4', ew3b8, ew3b8', ew3b9, ew3b9', vw3, ew3w2, ew3w2', eLb2, eLb2'] at nL
  have eLb4' : ¬ b4 = L := fun h => eLb4 h.symm
  have eLb8 : ¬ L = b8 := by rintro rfl; simp [View.set, vb2, eb4b2, eb4b2', vb4, eb8b2, eb8b2', eb8b4, eb8b4', vb8, eb9b2, eb9b2', eb9b4, eb9b4', eb9b8, eb9b8', vb9, ew2b2, ew2b2', ew2b4, ew2b4', ew2b8, ew2b8', ew2b9, ew2b9', vw2, ew3b2, ew3b2', ew3b4, ew3b4', ew3b8, ew3b8', ew3b9, ew3b9', vw3, ew3w2, ew3w2', eLb2, eLb2', eLb4, eLb4'] at nL
  have eLb8' : ¬ b8 = L := fun h => eLb8 h.symm
  have eLb9 : ¬ L = b9 := by rintro rfl; simp [View.set, vb2, eb4b2, eb4b2', vb4, eb8b2, eb8b2', eb8b4, eb8b4', vb8, eb9b2, eb9b2', eb9b4, eb9b4', eb9b8, eb9b8', vb9, ew2b2, ew2b2', ew2b4, ew2b4', ew2b8, ew2b8', ew2b9, ew2b9', vw2, ew3b2, ew3b2', ew3b4, ew3b4', ew3b8, ew3b8', ew3b9, ew3b9', vw3, ew3w2, ew3w2', eLb2, eLb2', eLb4, eLb4', eLb8, eLb8'] at nL
  have eLb9' : ¬ b9 = L := fun h => eLb9 h.symm
  have eLw3 : ¬ L = w3 := by rintro rfl; simp [View.set, vb2, eb4b2, eb4b2', vb4, eb8b2, eb8b2', eb8b4, eb8b4', vb8, eb9b2, eb9b2', eb9b4, eb9b4', eb9b8, eb9b8', vb9, ew2b2, ew2b2', ew2b4, ew2b4', ew2b8, ew2b8', ew2b9, ew2b9', vw2, ew3b2, ew3b2', ew3b4, ew3b4', ew3b8, ew3b8', ew3b9, ew3b9', vw3, ew3w2, ew3w2', eLb2, eLb2', eLb4, eLb4', eLb8, eLb8', eLb9, eLb9'] at nL
  have eLw3' : ¬ w3 = L := fun h => eLw3 h.symm
  have eLw2 : ¬ L = w2 := by rintro rfl; simp [View.set, vb2, eb4b2, eb4b2', vb4, eb8b2, eb8b2', eb8b4, eb8b4', vb8, eb9b2, eb9b2', eb9b4, eb9b4', eb9b8, eb9b8', vb9, ew2b2, ew2b2', ew2b4, ew2b4', ew2b8, ew2b8', ew2b9, ew2b9', vw2, ew3b2, ew3b2', ew3b4, ew3b4', ew3b8, ew3b8', ew3b9, ew3b9', vw3, ew3w2, ew3w2', eLb2, eLb2', eLb4, eLb4', eLb8, eLb8', eLb9, eLb9', eLw3, eLw3'] at nL
  have eLw2' : ¬ w2 = L := fun h => eLw2 h.symm
  have vL : V L = none := by simpa [View.set, vb2, eb4b2, eb4b2', vb4, eb8b2, eb8b2', eb8b4, eb8b4', vb8, eb9b2, eb9b2', eb9b4, eb9b4', eb9b8, eb9b8', vb9, ew2b2, ew2b2', ew2b4, ew2b4', ew2b8, ew2b8', ew2b9, ew2b9', vw2, ew3b2, ew3b2', ew3b4, ew3b4', ew3b8, ew3b8', ew3b9, ew3b9', vw3, ew3w2, ew3w2', eLb2, eLb2', eLb4, eLb4', eLb8, eLb8', eLb9, eLb9', eLw3, eLw3', eLw2, eLw2'] using nL
  refine bk_way (fun i V₁ => V₁ L = some lo ∧ V₁ b2 = some (.row (bk A (run U cs i))) ∧ V₁ b4 = some (.row (bk zf zf)) ∧ V₁ b8 = some (.row [iv (-1)]) ∧ V₁ b9 = some (.row [iv 0]) ∧ View.le V V₁ ∧ firstF A U cs 0 cs.length = firstF A U cs i (cs.length - i)) (fun c => V c ≠ none ∨ c = L ∨ c = b2 ∨ c = b4 ∨ c = b8 ∨ c = b9) h hU ?_ ?_ ?_ ?_ ew3w2 ?_ ?_ ?_ ?_ ?_
  · rintro i V₁ V₂ he ⟨k0, k1, k2, k3, k4, kl, hF⟩
    exact ⟨by rw [he _ (by simp)]; exact k0, by rw [he _ (by simp)]; exact k1, by rw [he _ (by simp)]; exact k2, by rw [he _ (by simp)]; exact k3, by rw [he _ (by simp)]; exact k4, fun c o hc => by rw [he c (.inl (by rw [hc]; simp))]; exact kl c o hc, hF⟩
  · rintro i V₁ ⟨k0, k1, k2, k3, k4, kl, hF⟩ c (hc | rfl | rfl | rfl | rfl | rfl)
    · intro hn; cases ho : V c with
      | none => exact hc ho
      | some o => rw [kl c o ho] at hn; cases hn
    · rw [k0]; simp
    · rw [k1]; simp
    · rw [k2]; simp
    · rw [k3]; simp
    · rw [k4]; simp
  · simp [vb2, eb4b2, eb4b2', vb4, eb8b2, eb8b2', eb8b4, eb8b4', vb8, eb9b2, eb9b2', eb9b4, eb9b4', eb9b8, eb9b8', vb9, ew2b2, ew2b2', ew2b4, ew2b4', ew2b8, ew2b8', ew2b9, ew2b9', vw2, ew3b2, ew3b2', ew3b4, ew3b4', ew3b8, ew3b8', ew3b9, ew3b9', vw3, ew3w2, ew3w2', eLb2, eLb2', eLb4, eLb4', eLb8, eLb8', eLb9, eLb9', eLw3, eLw3', eLw2, eLw2', vL]
  · simp [vb2, eb4b2, eb4b2', vb4, eb8b2, eb8b2', eb8b4, eb8b4', vb8, eb9b2, eb9b2', eb9b4, eb9b4', eb9b8, eb9b8', vb9, ew2b2, ew2b2', ew2b4, ew2b4', ew2b8, ew2b8', ew2b9, ew2b9', vw2, ew3b2, ew3b2', ew3b4, ew3b4', ew3b8, ew3b8', ew3b9, ew3b9', vw3, ew3w2, ew3w2', eLb2, eLb2', eLb4, eLb4', eLb8, eLb8', eLb9, eLb9', eLw3, eLw3', eLw2, eLw2', vL]
  · simp [View.set, vb2, eb4b2, eb4b2', vb4, eb8b2, eb8b2', eb8b4, eb8b4', vb8, eb9b2, eb9b2', eb9b4, eb9b4', eb9b8, eb9b8', vb9, ew2b2, ew2b2', ew2b4, ew2b4', ew2b8, ew2b8', ew2b9, ew2b9', vw2, ew3b2, ew3b2', ew3b4, ew3b4', ew3b8, ew3b8', ew3b9, ew3b9', vw3, ew3w2, ew3w2', eLb2, eLb2', eLb4, eLb4', eLb8, eLb8', eLb9, eLb9', eLw3, eLw3', eLw2, eLw2', vL]
  · simp [View.set, vb2, eb4b2, eb4b2', vb4, eb8b2, eb8b2', eb8b4, eb8b4', vb8, eb9b2, eb9b2', eb9b4, eb9b4', eb9b8, eb9b8', vb9, ew2b2, ew2b2', ew2b4, ew2b4', ew2b8, ew2b8', ew2b9, ew2b9', vw2, ew3b2, ew3b2', ew3b4, ew3b4', ew3b8, ew3b8', ew3b9, ew3b9', vw3, ew3w2, ew3w2', eLb2, eLb2', eLb4, eLb4', eLb8, eLb8', eLb9, eLb9', eLw3, eLw3', eLw2, eLw2', vL] <;> rfl
  · exact ⟨by simp [View.set], by simp [View.set, vb2, eb4b2, eb4b2', vb4, eb8b2, eb8b2', eb8b4, eb8b4', vb8, eb9b2, eb9b2', eb9b4, eb9b4', eb9b8, eb9b8', vb9, ew2b2, ew2b2', ew2b4, ew2b4', ew2b8, ew2b8', ew2b9, ew2b9', vw2, ew3b2, ew3b2', ew3b4, ew3b4', ew3b8, ew3b8', ew3b9, ew3b9', vw3, ew3w2, ew3w2', eLb2, eLb2', eLb4, eLb4', eLb8, eLb8', eLb9, eLb9', eLw3, eLw3', eLw2, eLw2', vL] <;> rfl, by simp [View.set, vb2, eb4b2, eb4b2', vb4, eb8b2, eb8b2', eb8b4, eb8b4', vb8, eb9b2, eb9b2', eb9b4, eb9b4', eb9b8, eb9b8', vb9, ew2b2, ew2b2', ew2b4, ew2b4', ew2b8, ew2b8', ew2b9, ew2b9', vw2, ew3b2, ew3b2', ew3b4, ew3b4', ew3b8, ew3b8', ew3b9, ew3b9', vw3, ew3w2, ew3w2', eLb2, eLb2', eLb4, eLb4', eLb8, eLb8', eLb9, eLb9', eLw3, eLw3', eLw2, eLw2', vL] <;> rfl, by simp [View.set, vb2, eb4b2, eb4b2', vb4, eb8b2, eb8b2', eb8b4, eb8b4', vb8, eb9b2, eb9b2', eb9b4, eb9b4', eb9b8, eb9b8', vb9, ew2b2, ew2b2', ew2b4, ew2b4', ew2b8, ew2b8', ew2b9, ew2b9', vw2, ew3b2, ew3b2', ew3b4, ew3b4', ew3b8, ew3b8', ew3b9, ew3b9', vw3, ew3w2, ew3w2', eLb2, eLb2', eLb4, eLb4', eLb8, eLb8', eLb9, eLb9', eLw3, eLw3', eLw2, eLw2', vL] <;> rfl, by simp [View.set, vb2, eb4b2, eb4b2', vb4, eb8b2, eb8b2', eb8b4, eb8b4', vb8, eb9b2, eb9b2', eb9b4, eb9b4', eb9b8, eb9b8', vb9, ew2b2, ew2b2', ew2b4, ew2b4', ew2b8, ew2b8', ew2b9, ew2b9', vw2, ew3b2, ew3b2', ew3b4, ew3b4', ew3b8, ew3b8', ew3b9, ew3b9', vw3, ew3w2, ew3w2', eLb2, eLb2', eLb4, eLb4', eLb8, eLb8', eLb9, eLb9', eLw3, eLw3', eLw2, eLw2', vL] <;> rfl, by repeat (first | exact View.le_refl _ | refine View.le_set ?_ (by assumption)), rfl⟩
  · rintro i V₁ hi ⟨k0, k1, k2, k3, k4, kl, hF⟩ g3 g2
    rw [show cs.length - i = (cs.length - (i + 1)) + 1 by omega, firstF] at hF
    refine a_round (pend := none) (by rw [k0, ← hlo]) rfl rfl ?_
    refine a_seq (a_region ?_)
    refine a_v rfl (s_assign (ev_t rfl)) ?_
    refine a_nil ?_
    refine a_region ?_
    refine a_vp rfl (s_alloc Try.z24) fun x V' hx => ?_
    obtain ⟨b11, nb11, rfl, rfl⟩ := hx
    have eb11L : ¬ b11 = L := by rintro rfl; simp [View.set, k0, k1, k2, k3, k4, g3, g2, eb4b2, eb4b2', eb8b2, eb8b2', eb8b4, eb8b4', eb9b2, eb9b2', eb9b4, eb9b4', eb9b8, eb9b8', ew2b2, ew2b2', ew2b4, ew2b4', ew2b8, ew2b8', ew2b9, ew2b9', ew3b2, ew3b2', ew3b4, ew3b4', ew3b8, ew3b8', ew3b9, ew3b9', ew3w2, ew3w2', eLb2, eLb2', eLb4, eLb4', eLb8, eLb8', eLb9, eLb9', eLw3, eLw3', eLw2, eLw2'] at nb11
    have eb11L' : ¬ L = b11 := fun h => eb11L h.symm
    have eb11b9 : ¬ b11 = b9 := by rintro rfl; simp [View.set, k0, k1, k2, k3, k4, g3, g2, eb4b2, eb4b2', eb8b2, eb8b2', eb8b4, eb8b4', eb9b2, eb9b2', eb9b4, eb9b4', eb9b8, eb9b8', ew2b2, ew2b2', ew2b4, ew2b4', ew2b8, ew2b8', ew2b9, ew2b9', ew3b2, ew3b2', ew3b4, ew3b4', ew3b8, ew3b8', ew3b9, ew3b9', ew3w2, ew3w2', eLb2, eLb2', eLb4, eLb4', eLb8, eLb8', eLb9, eLb9', eLw3, eLw3', eLw2, eLw2', eb11L, eb11L'] at nb11
    have eb11b9' : ¬ b9 = b11 := fun h => eb11b9 h.symm
    have eb11b8 : ¬ b11 = b8 := by rintro rfl; simp [View.set, k0, k1, k2, k3, k4, g3, g2, eb4b2, eb4b2', eb8b2, eb8b2', eb8b4, eb8b4', eb9b2, eb9b2', eb9b4, eb9b4', eb9b8, eb9b8', ew2b2, ew2b2', ew2b4, ew2b4', ew2b8, ew2b8', ew2b9, ew2b9', ew3b2, ew3b2', ew3b4, ew3b4', ew3b8, ew3b8', ew3b9, ew3b9', ew3w2, ew3w2', eLb2, eLb2', eLb4, eLb4', eLb8, eLb8', eLb9, eLb9', eLw3, eLw3', eLw2, eLw2', eb11L, eb11L', eb11b9, eb11b9'] at nb11
    have eb11b8' : ¬ b8 = b11 := fun h => eb11b8 h.symm
    have eb11b4 : ¬ b11 = b4 := by rintro rfl; simp [View.set, k0, k1, k2, k3, k4, g3, g2, eb4b2, eb4b2', eb8b2, eb8b2', eb8b4, eb8b4', eb9b2, eb9b2', eb9b4, eb9b4', eb9b8, eb9b8', ew2b2, ew2b2', ew2b4, ew2b4', ew2b8, ew2b8', ew2b9, ew2b9', ew3b2, ew3b2', ew3b4, ew3b4', ew3b8, ew3b8', ew3b9, ew3b9', ew3w2, ew3w2', eLb2, eLb2', eLb4, eLb4', eLb8, eLb8', eLb9, eLb9', eLw3, eLw3', eLw2, eLw2', eb11L, eb11L', eb11b9, eb11b9', eb11b8, eb11b8'] at nb11
    have eb11b4' : ¬ b4 = b11 := fun h => eb11b4 h.symm
    have eb11b2 : ¬ b11 = b2 := by rintro rfl; simp [View.set, k0, k1, k2, k3, k4, g3, g2, eb4b2, eb4b2', eb8b2, eb8b2', eb8b4, eb8b4', eb9b2, eb9b2', eb9b4, eb9b4', eb9b8, eb9b8', ew2b2, ew2b2', ew2b4, ew2b4', ew2b8, ew2b8', ew2b9, ew2b9', ew3b2, ew3b2', ew3b4, ew3b4', ew3b8, ew3b8', ew3b9, ew3b9', ew3w2, ew3w2', eLb2, eLb2', eLb4, eLb4', eLb8, eLb8', eLb9, eLb9', eLw3, eLw3', eLw2, eLw2', eb11L, eb11L', eb11b9, eb11b9', eb11b8, eb11b8', eb11b4, eb11b4'] at nb11
    have eb11b2' : ¬ b2 = b11 := fun h => eb11b2 h.symm
    have eb11w2 : ¬ b11 = w2 := by rintro rfl; simp [View.set, k0, k1, k2, k3, k4, g3, g2, eb4b2, eb4b2', eb8b2, eb8b2', eb8b4, eb8b4', eb9b2, eb9b2', eb9b4, eb9b4', eb9b8, eb9b8', ew2b2, ew2b2', ew2b4, ew2b4', ew2b8, ew2b8', ew2b9, ew2b9', ew3b2, ew3b2', ew3b4, ew3b4', ew3b8, ew3b8', ew3b9, ew3b9', ew3w2, ew3w2', eLb2, eLb2', eLb4, eLb4', eLb8, eLb8', eLb9, eLb9', eLw3, eLw3', eLw2, eLw2', eb11L, eb11L', eb11b9, eb11b9', eb11b8, eb11b8', eb11b4, eb11b4', eb11b2, eb11b2'] at nb11
    have eb11w2' : ¬ w2 = b11 := fun h => eb11w2 h.symm
    have eb11w3 : ¬ b11 = w3 := by rintro rfl; simp [View.set, k0, k1, k2, k3, k4, g3, g2, eb4b2, eb4b2', eb8b2, eb8b2', eb8b4, eb8b4', eb9b2, eb9b2', eb9b4, eb9b4', eb9b8, eb9b8', ew2b2, ew2b2', ew2b4, ew2b4', ew2b8, ew2b8', ew2b9, ew2b9', ew3b2, ew3b2', ew3b4, ew3b4', ew3b8, ew3b8', ew3b9, ew3b9', ew3w2, ew3w2', eLb2, eLb2', eLb4, eLb4', eLb8, eLb8', eLb9, eLb9', eLw3, eLw3', eLw2, eLw2', eb11L, eb11L', eb11b9, eb11b9', eb11b8, eb11b8', eb11b4, eb11b4', eb11b2, eb11b2', eb11w2, eb11w2'] at nb11
    have eb11w3' : ¬ w3 = b11 := fun h => eb11w3 h.symm
    have vb11 : V₁ b11 = none := by simpa [View.set, k0, k1, k2, k3, k4, g3, g2, eb4b2, eb4b2', eb8b2, eb8b2', eb8b4, eb8b4', eb9b2, eb9b2', eb9b4, eb9b4', eb9b8, eb9b8', ew2b2, ew2b2', ew2b4, ew2b4', ew2b8, ew2b8', ew2b9, ew2b9', ew3b2, ew3b2', ew3b4, ew3b4', ew3b8, ew3b8', ew3b9, ew3b9', ew3w2, ew3w2', eLb2, eLb2', eLb4, eLb4', eLb8, eLb8', eLb9, eLb9', eLw3, eLw3', eLw2, eLw2', eb11L, eb11L', eb11b9, eb11b9', eb11b8, eb11b8', eb11b4, eb11b4', eb11b2, eb11b2', eb11w2, eb11w2', eb11w3, eb11w3'] using nb11
    refine a_s (s_store Try.sh24 (ev_t rfl) (ev_t rfl) (by simp [View.set, View.drop, k0, k1, k2, k3, k4, g3, g2, eb4b2, eb4b2', eb8b2, eb8b2', eb8b4, eb8b4', eb9b2, eb9b2', eb9b4, eb9b4', eb9b8, eb9b8', ew2b2, ew2b2', ew2b4, ew2b4', ew2b8, ew2b8', ew2b9, ew2b9', ew3b2, ew3b2', ew3b4, ew3b4', ew3b8, ew3b8', ew3b9, ew3b9', ew3w2, ew3w2', eLb2, eLb2', eLb4, eLb4', eLb8, eLb8', eLb9, eLb9', eLw3, eLw3', eLw2, eLw2', eb11L, eb11L', eb11b9, eb11b9', eb11b8, eb11b8', eb11b4, eb11b4', eb11b2, eb11b2', eb11w2, eb11w2', eb11w3, eb11w3', vb11] <;> first | exact ⟨rfl, rfl⟩ | exact rfl) rfl rfl (by first | decide | (simp [ints, four]; done) | (simp [ints, four]; omega))) ?_
    refine a_nil ?_
    refine ⟨by rw [hlo]; simp [View.set, k0, k1, k2, k3, k4, g3, g2, eb4b2, eb4b2', eb8b2, eb8b2', eb8b4, eb8b4', eb9b2, eb9b2', eb9b4, eb9b4', eb9b8, eb9b8', ew2b2, ew2b2', ew2b4, ew2b4', ew2b8, ew2b8', ew2b9, ew2b9', ew3b2, ew3b2', ew3b4, ew3b4', ew3b8, ew3b8', ew3b9, ew3b9', ew3w2, ew3w2', eLb2, eLb2', eLb4, eLb4', eLb8, eLb8', eLb9, eLb9', eLw3, eLw3', eLw2, eLw2', eb11L, eb11L', eb11b9, eb11b9', eb11b8, eb11b8', eb11b4, eb11b4', eb11b2, eb11b2', eb11w2, eb11w2', eb11w3, eb11w3', vb11], ?_⟩
    refine a_block ?_
    refine a_seq (a_region ?_)
    refine a_v rfl (s_load Try.sh24 (ev_t rfl) (by simp [View.set, View.drop, k0, k1, k2, k3, k4, g3, g2, eb4b2, eb4b2', eb8b2, eb8b2', eb8b4, eb8b4', eb9b2, eb9b2', eb9b4, eb9b4', eb9b8, eb9b8', ew2b2, ew2b2', ew2b4, ew2b4', ew2b8, ew2b8', ew2b9, ew2b9', ew3b2, ew3b2', ew3b4, ew3b4', ew3b8, ew3b8', ew3b9, ew3b9', ew3w2, ew3w2', eLb2, eLb2', eLb4, eLb4', eLb8, eLb8', eLb9, eLb9', eLw3, eLw3', eLw2, eLw2', eb11L, eb11L', eb11b9, eb11b9', eb11b8, eb11b8', eb11b4, eb11b4', eb11b2, eb11b2', eb11w2, eb11w2', eb11w3, eb11w3', vb11] <;> first | exact ⟨rfl, rfl⟩ | exact rfl) rdA) ?_
    refine a_v rfl (s_fieldAddr Try.f49_1 rfl (ev_t rfl)) ?_
    refine a_s (s_storew Try.sh24 (ev_t rfl) (ev_t rfl) (by simp [View.set, View.drop, k0, k1, k2, k3, k4, g3, g2, eb4b2, eb4b2', eb8b2, eb8b2', eb8b4, eb8b4', eb9b2, eb9b2', eb9b4, eb9b4', eb9b8, eb9b8', ew2b2, ew2b2', ew2b4, ew2b4', ew2b8, ew2b8', ew2b9, ew2b9', ew3b2, ew3b2', ew3b4, ew3b4', ew3b8, ew3b8', ew3b9, ew3b9', ew3w2, ew3w2', eLb2, eLb2', eLb4, eLb4', eLb8, eLb8', eLb9, eLb9', eLw3, eLw3', eLw2, eLw2', eb11L, eb11L', eb11b9, eb11b9', eb11b8, eb11b8', eb11b4, eb11b4', eb11b2, eb11b2', eb11w2, eb11w2', eb11w3, eb11w3', vb11] <;> first | exact ⟨rfl, rfl⟩ | exact rfl) rfl rfl (by first | decide | (simp [ints, four]; done) | (simp [ints, four]; omega)) wrUA) ?_
    refine a_nil ?_
    refine a_seq (a_region ?_)
    refine a_v rfl (s_load Try.sh49 (ev_t rfl) (by simp [View.set, View.drop, k0, k1, k2, k3, k4, g3, g2, eb4b2, eb4b2', eb8b2, eb8b2', eb8b4, eb8b4', eb9b2, eb9b2', eb9b4, eb9b4', eb9b8, eb9b8', ew2b2, ew2b2', ew2b4, ew2b4', ew2b8, ew2b8', ew2b9, ew2b9', ew3b2, ew3b2', ew3b4, ew3b4', ew3b8, ew3b8', ew3b9, ew3b9', ew3w2, ew3w2', eLb2, eLb2', eLb4, eLb4', eLb8, eLb8', eLb9, eLb9', eLw3, eLw3', eLw2, eLw2', eb11L, eb11L', eb11b9, eb11b9', eb11b8, eb11b8', eb11b4, eb11b4', eb11b2, eb11b2', eb11w2, eb11w2', eb11w3, eb11w3', vb11] <;> first | exact ⟨rfl, rfl⟩ | exact rfl) bkA) ?_
    refine a_vp rfl (s_call Try.okF43 ev_f (.cons (ev_t rfl) .nil) (bk_fails A (run U cs (i + 1)) _)) fun x V' hx => ?_
    obtain ⟨rfl, rfl⟩ := hx
    refine a_v rfl (s_move (ev_t rfl)) ?_
    refine a_v rfl (s_extract (ev_t rfl) rfl) ?_
    refine a_v rfl (s_extract (ev_t rfl) rfl) ?_
    refine a_s (s_store Try.sh53 (ev_t rfl) (ev_t rfl) (by simp [View.set, View.drop, k0, k1, k2, k3, k4, g3, g2, eb4b2, eb4b2', eb8b2, eb8b2', eb8b4, eb8b4', eb9b2, eb9b2', eb9b4, eb9b4', eb9b8, eb9b8', ew2b2, ew2b2', ew2b4, ew2b4', ew2b8, ew2b8', ew2b9, ew2b9', ew3b2, ew3b2', ew3b4, ew3b4', ew3b8, ew3b8', ew3b9, ew3b9', ew3w2, ew3w2', eLb2, eLb2', eLb4, eLb4', eLb8, eLb8', eLb9, eLb9', eLw3, eLw3', eLw2, eLw2', eb11L, eb11L', eb11b9, eb11b9', eb11b8, eb11b8', eb11b4, eb11b4', eb11b2, eb11b2', eb11w2, eb11w2', eb11w3, eb11w3', vb11] <;> first | exact ⟨rfl, rfl⟩ | exact rfl) rfl rfl (by first | decide | (simp [ints, four]; done) | (simp [ints, four]; omega))) ?_
    refine a_nil ?_
    refine a_seq (a_region ?_)
    refine a_v rfl (s_load Try.sh53 (ev_t rfl) (by simp [View.set, View.drop, k0, k1, k2, k3, k4, g3, g2, eb4b2, eb4b2', eb8b2, eb8b2', eb8b4, eb8b4', eb9b2, eb9b2', eb9b4, eb9b4', eb9b8, eb9b8', ew2b2, ew2b2', ew2b4, ew2b4', ew2b8, ew2b8', ew2b9, ew2b9', ew3b2, ew3b2', ew3b4, ew3b4', ew3b8, ew3b8', ew3b9, ew3b9', ew3w2, ew3w2', eLb2, eLb2', eLb4, eLb4', eLb8, eLb8', eLb9, eLb9', eLw3, eLw3', eLw2, eLw2', eb11L, eb11L', eb11b9, eb11b9', eb11b8, eb11b8', eb11b4, eb11b4', eb11b2, eb11b2', eb11w2, eb11w2', eb11w3, eb11w3', vb11] <;> first | exact ⟨rfl, rfl⟩ | exact rfl) rfl) ?_
    refine a_v rfl (s_cmp (ev_t rfl) ev_c rfl) ?_
    refine a_nil ?_
    refine a_cond (ev_t rfl) (fun hc => ?_) (fun hc => a_skip ?_)
    · have hf : (failsF A (run U cs (i + 1)) 0 4).2 ≠ 0 := by simpa using hc
      rw [if_pos hf] at hF
      refine a_seq (a_region ?_)
      refine a_v rfl (s_move (ev_t rfl)) ?_
      refine a_s (s_store Try.sh3 (ev_t rfl) (ev_t rfl) (by simp [View.set, View.drop, k0, k1, k2, k3, k4, g3, g2, eb4b2, eb4b2', eb8b2, eb8b2', eb8b4, eb8b4', eb9b2, eb9b2', eb9b4, eb9b4', eb9b8, eb9b8', ew2b2, ew2b2', ew2b4, ew2b4', ew2b8, ew2b8', ew2b9, ew2b9', ew3b2, ew3b2', ew3b4, ew3b4', ew3b8, ew3b8', ew3b9, ew3b9', ew3w2, ew3w2', eLb2, eLb2', eLb4, eLb4', eLb8, eLb8', eLb9, eLb9', eLw3, eLw3', eLw2, eLw2', eb11L, eb11L', eb11b9, eb11b9', eb11b8, eb11b8', eb11b4, eb11b4', eb11b2, eb11b2', eb11w2, eb11w2', eb11w3, eb11w3', vb11] <;> first | exact ⟨rfl, rfl⟩ | exact rfl) rfl rfl (by first | decide | (simp [ints, four]; done) | (simp [ints, four]; omega))) ?_
      refine a_nil ?_
      refine a_exit ?_
      repeat first | refine thenA_x ?_ | refine blockA_hit ?_ | refine blockA_x (by decide) ?_
      refine ⟨⟨.busy, none, by simp [View.set, k0, k1, k2, k3, k4, g3, g2, eb4b2, eb4b2', eb8b2, eb8b2', eb8b4, eb8b4', eb9b2, eb9b2', eb9b4, eb9b4', eb9b8, eb9b8', ew2b2, ew2b2', ew2b4, ew2b4', ew2b8, ew2b8', ew2b9, ew2b9', ew3b2, ew3b2', ew3b4, ew3b4', ew3b8, ew3b8', ew3b9, ew3b9', ew3w2, ew3w2', eLb2, eLb2', eLb4, eLb4', eLb8, eLb8', eLb9, eLb9', eLw3, eLw3', eLw2, eLw2', eb11L, eb11L', eb11b9, eb11b9', eb11b8, eb11b8', eb11b4, eb11b4', eb11b2, eb11b2', eb11w2, eb11w2', eb11w3, eb11w3', vb11]⟩, by simp [View.set, k0, k1, k2, k3, k4, g3, g2, eb4b2, eb4b2', eb8b2, eb8b2', eb8b4, eb8b4', eb9b2, eb9b2', eb9b4, eb9b4', eb9b8, eb9b8', ew2b2, ew2b2', ew2b4, ew2b4', ew2b8, ew2b8', ew2b9, ew2b9', ew3b2, ew3b2', ew3b4, ew3b4', ew3b8, ew3b8', ew3b9, ew3b9', ew3w2, ew3w2', eLb2, eLb2', eLb4, eLb4', eLb8, eLb8', eLb9, eLb9', eLw3, eLw3', eLw2, eLw2', eb11L, eb11L', eb11b9, eb11b9', eb11b8, eb11b8', eb11b4, eb11b4', eb11b2, eb11b2', eb11w2, eb11w2', eb11w3, eb11w3', vb11], by simp [View.set, k0, k1, k2, k3, k4, g3, g2, eb4b2, eb4b2', eb8b2, eb8b2', eb8b4, eb8b4', eb9b2, eb9b2', eb9b4, eb9b4', eb9b8, eb9b8', ew2b2, ew2b2', ew2b4, ew2b4', ew2b8, ew2b8', ew2b9, ew2b9', ew3b2, ew3b2', ew3b4, ew3b4', ew3b8, ew3b8', ew3b9, ew3b9', ew3w2, ew3w2', eLb2, eLb2', eLb4, eLb4', eLb8, eLb8', eLb9, eLb9', eLw3, eLw3', eLw2, eLw2', eb11L, eb11L', eb11b9, eb11b9', eb11b8, eb11b8', eb11b4, eb11b4', eb11b2, eb11b2', eb11w2, eb11w2', eb11w3, eb11w3', vb11], false, rfl, (fun h => by cases h), fun _ => ?_⟩
      refine ⟨.done, some (.exit 0), by simp [View.set, k0, k1, k2, k3, k4, g3, g2, eb4b2, eb4b2', eb8b2, eb8b2', eb8b4, eb8b4', eb9b2, eb9b2', eb9b4, eb9b4', eb9b8, eb9b8', ew2b2, ew2b2', ew2b4, ew2b4', ew2b8, ew2b8', ew2b9, ew2b9', ew3b2, ew3b2', ew3b4, ew3b4', ew3b8, ew3b8', ew3b9, ew3b9', ew3w2, ew3w2', eLb2, eLb2', eLb4, eLb4', eLb8, eLb8', eLb9, eLb9', eLw3, eLw3', eLw2, eLw2', eb11L, eb11L', eb11b9, eb11b9', eb11b8, eb11b8', eb11b4, eb11b4', eb11b2, eb11b2', eb11w2, eb11w2', eb11w3, eb11w3', vb11], by simp, a_exit (blockA_hit (thenA_n ⟨_, _, rfl, ⟨rfl, rfl, rfl, rfl, trivial⟩, by simp [View.set, View.drop, hF, k0, k1, k2, k3, k4, g3, g2, eb4b2, eb4b2', eb8b2, eb8b2', eb8b4, eb8b4', eb9b2, eb9b2', eb9b4, eb9b4', eb9b8, eb9b8', ew2b2, ew2b2', ew2b4, ew2b4', ew2b8, ew2b8', ew2b9, ew2b9', ew3b2, ew3b2', ew3b4, ew3b4', ew3b8, ew3b8', ew3b9, ew3b9', ew3w2, ew3w2', eLb2, eLb2', eLb4, eLb4', eLb8, eLb8', eLb9, eLb9', eLw3, eLw3', eLw2, eLw2', eb11L, eb11L', eb11b9, eb11b9', eb11b8, eb11b8', eb11b4, eb11b4', eb11b2, eb11b2', eb11w2, eb11w2', eb11w3, eb11w3', vb11] <;> rfl, by simp [View.set, View.drop, hF, k0, k1, k2, k3, k4, g3, g2, eb4b2, eb4b2', eb8b2, eb8b2', eb8b4, eb8b4', eb9b2, eb9b2', eb9b4, eb9b4', eb9b8, eb9b8', ew2b2, ew2b2', ew2b4, ew2b4', ew2b8, ew2b8', ew2b9, ew2b9', ew3b2, ew3b2', ew3b4, ew3b4', ew3b8, ew3b8', ew3b9, ew3b9', ew3w2, ew3w2', eLb2, eLb2', eLb4, eLb4', eLb8, eLb8', eLb9, eLb9', eLw3, eLw3', eLw2, eLw2', eb11L, eb11L', eb11b9, eb11b9', eb11b8, eb11b8', eb11b4, eb11b4', eb11b2, eb11b2', eb11w2, eb11w2', eb11w3, eb11w3', vb11] <;> rfl, by simp [View.set, View.drop, k0, k1, k2, k3, k4, g3, g2, eb4b2, eb4b2', eb8b2, eb8b2', eb8b4, eb8b4', eb9b2, eb9b2', eb9b4, eb9b4', eb9b8, eb9b8', ew2b2, ew2b2', ew2b4, ew2b4', ew2b8, ew2b8', ew2b9, ew2b9', ew3b2, ew3b2', ew3b4, ew3b4', ew3b8, ew3b8', ew3b9, ew3b9', ew3w2, ew3w2', eLb2, eLb2', eLb4, eLb4', eLb8, eLb8', eLb9, eLb9', eLw3, eLw3', eLw2, eLw2', eb11L, eb11L', eb11b9, eb11b9', eb11b8, eb11b8', eb11b4, eb11b4', eb11b2, eb11b2', eb11w2, eb11w2', eb11w3, eb11w3', vb11] <;> rfl, by simp [View.set, View.drop, k0, k1, k2, k3, k4, g3, g2, eb4b2, eb4b2', eb8b2, eb8b2', eb8b4, eb8b4', eb9b2, eb9b2', eb9b4, eb9b4', eb9b8, eb9b8', ew2b2, ew2b2', ew2b4, ew2b4', ew2b8, ew2b8', ew2b9, ew2b9', ew3b2, ew3b2', ew3b4, ew3b4', ew3b8, ew3b8', ew3b9, ew3b9', ew3w2, ew3w2', eLb2, eLb2', eLb4, eLb4', eLb8, eLb8', eLb9, eLb9', eLw3, eLw3', eLw2, eLw2', eb11L, eb11L', eb11b9, eb11b9', eb11b8, eb11b8', eb11b4, eb11b4', eb11b2, eb11b2', eb11w2, eb11w2', eb11w3, eb11w3', vb11] <;> rfl, ?_, fun h0 => absurd (by rw [hF] at h0; exact h0) hf⟩))⟩
      refine View.le_drop ?_ vL
      repeat refine View.le_set ?_ ?_
      all_goals first | assumption | exact View.le_none kl (by assumption)
    have hf : ¬ (failsF A (run U cs (i + 1)) 0 4).2 ≠ 0 := by simpa using hc
    have hf0 : (failsF A (run U cs (i + 1)) 0 4).2 = 0 := by simpa using hc
    rw [if_neg hf] at hF
    refine ⟨⟨.busy, none, by simp [View.set, k0, k1, k2, k3, k4, g3, g2, eb4b2, eb4b2', eb8b2, eb8b2', eb8b4, eb8b4', eb9b2, eb9b2', eb9b4, eb9b4', eb9b8, eb9b8', ew2b2, ew2b2', ew2b4, ew2b4', ew2b8, ew2b8', ew2b9, ew2b9', ew3b2, ew3b2', ew3b4, ew3b4', ew3b8, ew3b8', ew3b9, ew3b9', ew3w2, ew3w2', eLb2, eLb2', eLb4, eLb4', eLb8, eLb8', eLb9, eLb9', eLw3, eLw3', eLw2, eLw2', eb11L, eb11L', eb11b9, eb11b9', eb11b8, eb11b8', eb11b4, eb11b4', eb11b2, eb11b2', eb11w2, eb11w2', eb11w3, eb11w3', vb11]⟩, by simp [View.set, k0, k1, k2, k3, k4, g3, g2, eb4b2, eb4b2', eb8b2, eb8b2', eb8b4, eb8b4', eb9b2, eb9b2', eb9b4, eb9b4', eb9b8, eb9b8', ew2b2, ew2b2', ew2b4, ew2b4', ew2b8, ew2b8', ew2b9, ew2b9', ew3b2, ew3b2', ew3b4, ew3b4', ew3b8, ew3b8', ew3b9, ew3b9', ew3w2, ew3w2', eLb2, eLb2', eLb4, eLb4', eLb8, eLb8', eLb9, eLb9', eLw3, eLw3', eLw2, eLw2', eb11L, eb11L', eb11b9, eb11b9', eb11b8, eb11b8', eb11b4, eb11b4', eb11b2, eb11b2', eb11w2, eb11w2', eb11w3, eb11w3', vb11], by simp [View.set, k0, k1, k2, k3, k4, g3, g2, eb4b2, eb4b2', eb8b2, eb8b2', eb8b4, eb8b4', eb9b2, eb9b2', eb9b4, eb9b4', eb9b8, eb9b8', ew2b2, ew2b2', ew2b4, ew2b4', ew2b8, ew2b8', ew2b9, ew2b9', ew3b2, ew3b2', ew3b4, ew3b4', ew3b8, ew3b8', ew3b9, ew3b9', ew3w2, ew3w2', eLb2, eLb2', eLb4, eLb4', eLb8, eLb8', eLb9, eLb9', eLw3, eLw3', eLw2, eLw2', eb11L, eb11L', eb11b9, eb11b9', eb11b8, eb11b8', eb11b4, eb11b4', eb11b2, eb11b2', eb11w2, eb11w2', eb11w3, eb11w3', vb11], true, rfl, fun _ => ⟨(View.set_same _ _ _).trans (congrArg some hlo), by simp [View.set, k0, k1, k2, k3, k4, g3, g2, eb4b2, eb4b2', eb8b2, eb8b2', eb8b4, eb8b4', eb9b2, eb9b2', eb9b4, eb9b4', eb9b8, eb9b8', ew2b2, ew2b2', ew2b4, ew2b4', ew2b8, ew2b8', ew2b9, ew2b9', ew3b2, ew3b2', ew3b4, ew3b4', ew3b8, ew3b8', ew3b9, ew3b9', ew3w2, ew3w2', eLb2, eLb2', eLb4, eLb4', eLb8, eLb8', eLb9, eLb9', eLw3, eLw3', eLw2, eLw2', eb11L, eb11L', eb11b9, eb11b9', eb11b8, eb11b8', eb11b4, eb11b4', eb11b2, eb11b2', eb11w2, eb11w2', eb11w3, eb11w3', vb11] <;> rfl, by simp [View.set, k0, k1, k2, k3, k4, g3, g2, eb4b2, eb4b2', eb8b2, eb8b2', eb8b4, eb8b4', eb9b2, eb9b2', eb9b4, eb9b4', eb9b8, eb9b8', ew2b2, ew2b2', ew2b4, ew2b4', ew2b8, ew2b8', ew2b9, ew2b9', ew3b2, ew3b2', ew3b4, ew3b4', ew3b8, ew3b8', ew3b9, ew3b9', ew3w2, ew3w2', eLb2, eLb2', eLb4, eLb4', eLb8, eLb8', eLb9, eLb9', eLw3, eLw3', eLw2, eLw2', eb11L, eb11L', eb11b9, eb11b9', eb11b8, eb11b8', eb11b4, eb11b4', eb11b2, eb11b2', eb11w2, eb11w2', eb11w3, eb11w3', vb11] <;> rfl, by simp [View.set, k0, k1, k2, k3, k4, g3, g2, eb4b2, eb4b2', eb8b2, eb8b2', eb8b4, eb8b4', eb9b2, eb9b2', eb9b4, eb9b4', eb9b8, eb9b8', ew2b2, ew2b2', ew2b4, ew2b4', ew2b8, ew2b8', ew2b9, ew2b9', ew3b2, ew3b2', ew3b4, ew3b4', ew3b8, ew3b8', ew3b9, ew3b9', ew3w2, ew3w2', eLb2, eLb2', eLb4, eLb4', eLb8, eLb8', eLb9, eLb9', eLw3, eLw3', eLw2, eLw2', eb11L, eb11L', eb11b9, eb11b9', eb11b8, eb11b8', eb11b4, eb11b4', eb11b2, eb11b2', eb11w2, eb11w2', eb11w3, eb11w3', vb11] <;> rfl, by simp [View.set, hf0, k0, k1, k2, k3, k4, g3, g2, eb4b2, eb4b2', eb8b2, eb8b2', eb8b4, eb8b4', eb9b2, eb9b2', eb9b4, eb9b4', eb9b8, eb9b8', ew2b2, ew2b2', ew2b4, ew2b4', ew2b8, ew2b8', ew2b9, ew2b9', ew3b2, ew3b2', ew3b4, ew3b4', ew3b8, ew3b8', ew3b9, ew3b9', ew3w2, ew3w2', eLb2, eLb2', eLb4, eLb4', eLb8, eLb8', eLb9, eLb9', eLw3, eLw3', eLw2, eLw2', eb11L, eb11L', eb11b9, eb11b9', eb11b8, eb11b8', eb11b4, eb11b4', eb11b2, eb11b2', eb11w2, eb11w2', eb11w3, eb11w3', vb11] <;> rfl, ?_, hF⟩, fun h => by cases h⟩
    repeat refine View.le_set ?_ ?_
    all_goals first | assumption | exact View.le_none kl (by assumption)
  · rintro V₁ ⟨k0, k1, k2, k3, k4, kl, hF⟩
    have hF' : firstF A U cs 0 cs.length = (-1, 0) := by rw [hF, Nat.sub_self, firstF]
    refine ⟨.ready, none, by rw [k0, ← hlo], by simp, ?_⟩
    refine ⟨_, run U cs cs.length, rfl, ⟨rfl, rfl, rfl, rfl, trivial⟩, ?_, ?_, ?_, ?_, View.le_drop kl vL, fun _ => rfl⟩
    all_goals simp [View.drop, hF', k0, k1, k2, k3, k4, eb4b2, eb4b2', eb8b2, eb8b2', eb8b4, eb8b4', eb9b2, eb9b2', eb9b4, eb9b4', eb9b8, eb9b8', ew2b2, ew2b2', ew2b4, ew2b4', ew2b8, ew2b8', ew2b9, ew2b9', ew3b2, ew3b2', ew3b4, ew3b4', ew3b8, ew3b8', ew3b9, ew3b9', ew3w2, ew3w2', eLb2, eLb2', eLb4, eLb4', eLb8, eLb8', eLb9, eLb9', eLw3, eLw3', eLw2, eLw2']
#print axioms bk_steps
end Go.Proofs
