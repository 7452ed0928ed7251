import Derived.Test.YtapelipehckbcaaBkA
set_option linter.unusedVariables false
set_option linter.unusedSimpArgs false
namespace Go.AV
abbrev zf : Nat → Int := fun _ => 0
theorem small_zf : small zf := fun k => by simp [zf]
end Go.AV
namespace Go.Proofs
open Go.AV
theorem bk_sum {cs : Ch} (h : okC cs) (V : View) : ACalls Try.prog 13 [.tree 2 (chs cs)] V fun x V' => x = .tuple [.agg (ints (four (run zf cs cs.length))), iv 0] ∧ V' = V := by
  refine a_fn (fn := Try.f13) Try.func13 rfl ?_ rfl
  refine a_seq (a_region ?_)
  refine a_vp rfl (s_alloc Try.z24) fun x V' hx => ?_
  obtain ⟨b2, nb2, rfl, rfl⟩ := hx
  have vb2 : V b2 = none := by simpa [View.set, ] using nb2
  refine a_v rfl (s_assign ev_c) ?_
  refine a_nil ?_
  refine a_seq (a_region ?_)
  refine a_vp rfl (s_alloc Try.z24) fun x V' hx => ?_
  obtain ⟨b4, nb4, rfl, rfl⟩ := hx
  have eb4b2 : ¬ b4 = b2 := by rintro rfl; simp [View.set, vb2] at nb4
  have eb4b2' : ¬ b2 = b4 := fun h => eb4b2 h.symm
  have vb4 : V b4 = none := by simpa [View.set, vb2, eb4b2, eb4b2'] using nb4
  refine a_nil ?_
  refine a_seq (a_seq (a_region ?_))
  refine a_v rfl (s_move (ev_t rfl)) ?_
  refine a_vp rfl (s_call Try.okF44 ev_f (.cons (ev_t rfl) .nil) (bk_check h _)) fun x V' hx => ?_
  obtain ⟨rfl, rfl⟩ := hx
  refine a_v rfl (s_assign (ev_t rfl)) ?_
  refine a_nil ?_
  refine a_seq (a_region ?_)
  refine a_v rfl (s_move (ev_t rfl)) ?_
  refine a_v rfl (s_cmp (ev_t rfl) ev_c rfl) ?_
  refine a_nil ?_
  refine a_cond (ev_t rfl) (fun hc => ?_) (fun hc => a_skip ?_)
  · exfalso; simp at hc
  refine a_seq (a_seq (a_region ?_))
  refine a_v rfl (s_load Try.sh24 (ev_t rfl) (by simp [View.set, View.drop, vb2, eb4b2, eb4b2', vb4] <;> first | exact ⟨rfl, rfl⟩ | exact rfl) (rdA (U := zf))) ?_
  refine a_v rfl (s_move (ev_t rfl)) ?_
  refine a_vp rfl (s_call Try.okF42 ev_f (.cons (ev_t rfl) (.cons (ev_t rfl) .nil)) (bk_way0 zf cs _)) fun x V' hx => ?_
  obtain ⟨w2, w3, nw2, ew3w2, nw3, rfl, rfl⟩ := hx
  refine a_nil ?_
  have ew3w2' : ¬ w2 = w3 := fun h => ew3w2 h.symm
  have ew2b2 : ¬ w2 = b2 := by rintro rfl; simp [View.set, vb2, eb4b2, eb4b2', vb4] at nw2
  have ew2b2' : ¬ b2 = w2 := fun h => ew2b2 h.symm
  have ew2b4 : ¬ w2 = b4 := by rintro rfl; simp [View.set, vb2, eb4b2, eb4b2', vb4, ew2b2, ew2b2'] at nw2
  have ew2b4' : ¬ b4 = w2 := fun h => ew2b4 h.symm
  have vw2 : V w2 = none := by simpa [View.set, vb2, eb4b2, eb4b2', vb4, ew2b2, ew2b2', ew2b4, ew2b4'] using nw2
  have ew3b2 : ¬ w3 = b2 := by rintro rfl; simp [View.set, vb2, eb4b2, eb4b2', vb4, ew2b2, ew2b2', ew2b4, ew2b4', vw2] at nw3
  have ew3b2' : ¬ b2 = w3 := fun h => ew3b2 h.symm
  have ew3b4 : ¬ w3 = b4 := by rintro rfl; simp [View.set, vb2, eb4b2, eb4b2', vb4, ew2b2, ew2b2', ew2b4, ew2b4', vw2, ew3b2, ew3b2'] at nw3
  have ew3b4' : ¬ b4 = w3 := fun h => ew3b4 h.symm
  have vw3 : V w3 = none := by simpa [View.set, vb2, eb4b2, eb4b2', vb4, ew2b2, ew2b2', ew2b4, ew2b4', vw2, ew3b2, ew3b2', ew3b4, ew3b4'] using nw3
  refine a_block ?_
  refine a_range (fs := []) (cap := [_, _]) Try.okF66 (ev_t rfl) fun L nL => ?_
  generalize hlo : AObj.loop LoopState.ready none _ _ _ _ = lo
  have eLb2 : ¬ L = b2 := by rintro rfl; simp [View.set, vb2, eb4b2, eb4b2', vb4, ew2b2, ew2b2', ew2b4, ew2b4', vw2, ew3b2, ew3b2', ew3b4, ew3b4', vw3, ew3w2, ew3w2'] at nL
  have eLb2' : ¬ b2 = L := fun h => eLb2 h.symm
  have eLb4 : ¬ L = b4 := by rintro rfl; simp [View.set, vb2, eb4b2, eb4b2', vb4, ew2b2, ew2b2', ew2b4, ew2b4', vw2, ew3b2, ew3b2', ew3b4, ew3b4', vw3, ew3w2, ew3w2', eLb2, eLb2'] at nL
  have eLb4' : ¬ b4 = L := fun h => eLb4 h.symm
  have eLw3 : ¬ L = w3 := by rintro rfl; simp [View.set, vb2, eb4b2, eb4b2', vb4, ew2b2, ew2b2', ew2b4, ew2b4', vw2, ew3b2, ew3b2', ew3b4, ew3b4', vw3, ew3w2, ew3w2', eLb2, eLb2', eLb4, eLb4'] at nL
  have eLw3' : ¬ w3 = L := fun h => eLw3 h.symm
  have eLw2 : ¬ L = w2 := by rintro rfl; simp [View.set, vb2, eb4b2, eb4b2', vb4, ew2b2, ew2b2', ew2b4, ew2b4', vw2, ew3b2, ew3b2', ew3b4, ew3b4', vw3, ew3w2, ew3w2', eLb2, eLb2', eLb4, eLb4', eLw3, eLw3'] at nL
  have eLw2' : ¬ w2 = L := fun h => eLw2 h.symm
  have vL : V L = none := by simpa [View.set, vb2, eb4b2, eb4b2', vb4, ew2b2, ew2b2', ew2b4, ew2b4', vw2, ew3b2, ew3b2', ew3b4, ew3b4', vw3, ew3w2, ew3w2', eLb2, eLb2', eLb4, eLb4', eLw3, eLw3', eLw2, eLw2'] using nL
  refine bk_way (fun i V₁ => V₁ L = some lo ∧ V₁ b2 = some (.row (ints (four zf))) ∧ V₁ b4 = some (.row (ints (four (run zf cs i)))) ∧ View.le V V₁) (fun c => V c ≠ none ∨ c = L ∨ c = b2 ∨ c = b4) h small_zf ?_ ?_ ?_ ?_ ew3w2 ?_ ?_ ?_ ?_ ?_
  · rintro i V₁ V₂ he ⟨k0, k1, k2, kl⟩
    exact ⟨by rw [he _ (by simp)]; exact k0, by rw [he _ (by simp)]; exact k1, by rw [he _ (by simp)]; exact k2, fun c o hc => by rw [he c (.inl (by rw [hc]; simp))]; exact kl c o hc⟩
  · rintro i V₁ ⟨k0, k1, k2, kl⟩ c (hc | rfl | rfl | rfl)
    · intro hn; cases ho : V c with
      | none => exact hc ho
      | some o => rw [kl c o ho] at hn; cases hn
    · rw [k0]; simp
    · rw [k1]; simp
    · rw [k2]; simp
  · simp [vb2, eb4b2, eb4b2', vb4, ew2b2, ew2b2', ew2b4, ew2b4', vw2, ew3b2, ew3b2', ew3b4, ew3b4', vw3, ew3w2, ew3w2', eLb2, eLb2', eLb4, eLb4', eLw3, eLw3', eLw2, eLw2', vL]
  · simp [vb2, eb4b2, eb4b2', vb4, ew2b2, ew2b2', ew2b4, ew2b4', vw2, ew3b2, ew3b2', ew3b4, ew3b4', vw3, ew3w2, ew3w2', eLb2, eLb2', eLb4, eLb4', eLw3, eLw3', eLw2, eLw2', vL]
  · simp [View.set, vb2, eb4b2, eb4b2', vb4, ew2b2, ew2b2', ew2b4, ew2b4', vw2, ew3b2, ew3b2', ew3b4, ew3b4', vw3, ew3w2, ew3w2', eLb2, eLb2', eLb4, eLb4', eLw3, eLw3', eLw2, eLw2', vL]
  · simp [View.set, vb2, eb4b2, eb4b2', vb4, ew2b2, ew2b2', ew2b4, ew2b4', vw2, ew3b2, ew3b2', ew3b4, ew3b4', vw3, ew3w2, ew3w2', eLb2, eLb2', eLb4, eLb4', eLw3, eLw3', eLw2, eLw2', vL] <;> rfl
  · exact ⟨by simp [View.set], by simp [View.set, vb2, eb4b2, eb4b2', vb4, ew2b2, ew2b2', ew2b4, ew2b4', vw2, ew3b2, ew3b2', ew3b4, ew3b4', vw3, ew3w2, ew3w2', eLb2, eLb2', eLb4, eLb4', eLw3, eLw3', eLw2, eLw2', vL] <;> rfl, by simp [View.set, vb2, eb4b2, eb4b2', vb4, ew2b2, ew2b2', ew2b4, ew2b4', vw2, ew3b2, ew3b2', ew3b4, ew3b4', vw3, ew3w2, ew3w2', eLb2, eLb2', eLb4, eLb4', eLw3, eLw3', eLw2, eLw2', vL] <;> rfl, View.le_set (View.le_set (View.le_set (View.le_set (View.le_set (View.le_refl _) vb2) vb4) vw2) vw3) vL⟩
  · rintro i V₁ hi ⟨k0, k1, k2, kl⟩ g3 g2
    refine a_round (pend := none) (by rw [k0, ← hlo]) rfl rfl ?_
    refine a_region ?_
    refine a_vp rfl (s_alloc Try.z24) fun x V' hx => ?_
    obtain ⟨b7, nb7, rfl, rfl⟩ := hx
    have eb7L : ¬ b7 = L := by rintro rfl; simp [View.set, k0, k1, k2, eb4b2, eb4b2', ew2b2, ew2b2', ew2b4, ew2b4', ew3b2, ew3b2', ew3b4, ew3b4', ew3w2, ew3w2', eLb2, eLb2', eLb4, eLb4', eLw3, eLw3', eLw2, eLw2', g3, g2] at nb7
    have eb7L' : ¬ L = b7 := fun h => eb7L h.symm
    have eb7b4 : ¬ b7 = b4 := by rintro rfl; simp [View.set, k0, k1, k2, eb4b2, eb4b2', ew2b2, ew2b2', ew2b4, ew2b4', ew3b2, ew3b2', ew3b4, ew3b4', ew3w2, ew3w2', eLb2, eLb2', eLb4, eLb4', eLw3, eLw3', eLw2, eLw2', g3, g2, eb7L, eb7L'] at nb7
    have eb7b4' : ¬ b4 = b7 := fun h => eb7b4 h.symm
    have eb7b2 : ¬ b7 = b2 := by rintro rfl; simp [View.set, k0, k1, k2, eb4b2, eb4b2', ew2b2, ew2b2', ew2b4, ew2b4', ew3b2, ew3b2', ew3b4, ew3b4', ew3w2, ew3w2', eLb2, eLb2', eLb4, eLb4', eLw3, eLw3', eLw2, eLw2', g3, g2, eb7L, eb7L', eb7b4, eb7b4'] at nb7
    have eb7b2' : ¬ b2 = b7 := fun h => eb7b2 h.symm
    have eb7w2 : ¬ b7 = w2 := by rintro rfl; simp [View.set, k0, k1, k2, eb4b2, eb4b2', ew2b2, ew2b2', ew2b4, ew2b4', ew3b2, ew3b2', ew3b4, ew3b4', ew3w2, ew3w2', eLb2, eLb2', eLb4, eLb4', eLw3, eLw3', eLw2, eLw2', g3, g2, eb7L, eb7L', eb7b4, eb7b4', eb7b2, eb7b2'] at nb7
    have eb7w2' : ¬ w2 = b7 := fun h => eb7w2 h.symm
    have eb7w3 : ¬ b7 = w3 := by rintro rfl; simp [View.set, k0, k1, k2, eb4b2, eb4b2', ew2b2, ew2b2', ew2b4, ew2b4', ew3b2, ew3b2', ew3b4, ew3b4', ew3w2, ew3w2', eLb2, eLb2', eLb4, eLb4', eLw3, eLw3', eLw2, eLw2', g3, g2, eb7L, eb7L', eb7b4, eb7b4', eb7b2, eb7b2', eb7w2, eb7w2'] at nb7
    have eb7w3' : ¬ w3 = b7 := fun h => eb7w3 h.symm
    have vb7 : V₁ b7 = none := by simpa [View.set, k0, k1, k2, eb4b2, eb4b2', ew2b2, ew2b2', ew2b4, ew2b4', ew3b2, ew3b2', ew3b4, ew3b4', ew3w2, ew3w2', eLb2, eLb2', eLb4, eLb4', eLw3, eLw3', eLw2, eLw2', g3, g2, eb7L, eb7L', eb7b4, eb7b4', eb7b2, eb7b2', eb7w2, eb7w2', eb7w3, eb7w3'] using nb7
    refine a_s (s_store Try.sh24 (ev_t rfl) (ev_t rfl) (by simp [View.set, View.drop, k0, k1, k2, eb4b2, eb4b2', ew2b2, ew2b2', ew2b4, ew2b4', ew3b2, ew3b2', ew3b4, ew3b4', ew3w2, ew3w2', eLb2, eLb2', eLb4, eLb4', eLw3, eLw3', eLw2, eLw2', g3, g2, eb7L, eb7L', eb7b4, eb7b4', eb7b2, eb7b2', eb7w2, eb7w2', eb7w3, eb7w3', vb7] <;> first | exact ⟨rfl, rfl⟩ | exact rfl) rfl rfl (by first | decide | (simp [ints, four]; done) | (simp [ints, four]; omega))) ?_
    refine a_nil ?_
    refine ⟨by simp [View.set, k0, k1, k2, eb4b2, eb4b2', ew2b2, ew2b2', ew2b4, ew2b4', ew3b2, ew3b2', ew3b4, ew3b4', ew3w2, ew3w2', eLb2, eLb2', eLb4, eLb4', eLw3, eLw3', eLw2, eLw2', g3, g2, eb7L, eb7L', eb7b4, eb7b4', eb7b2, eb7b2', eb7w2, eb7w2', eb7w3, eb7w3', vb7, ← hlo], ?_⟩
    refine a_block ?_
    refine a_region ?_
    refine a_v rfl (s_load Try.sh24 (ev_t rfl) (by simp [View.set, View.drop, k0, k1, k2, eb4b2, eb4b2', ew2b2, ew2b2', ew2b4, ew2b4', ew3b2, ew3b2', ew3b4, ew3b4', ew3w2, ew3w2', eLb2, eLb2', eLb4, eLb4', eLw3, eLw3', eLw2, eLw2', g3, g2, eb7L, eb7L', eb7b4, eb7b4', eb7b2, eb7b2', eb7w2, eb7w2', eb7w3, eb7w3', vb7] <;> first | exact ⟨rfl, rfl⟩ | exact rfl) rdA) ?_
    refine a_s (s_storew Try.sh24 (ev_t rfl) (ev_t rfl) (by simp [View.set, View.drop, k0, k1, k2, eb4b2, eb4b2', ew2b2, ew2b2', ew2b4, ew2b4', ew3b2, ew3b2', ew3b4, ew3b4', ew3w2, ew3w2', eLb2, eLb2', eLb4, eLb4', eLw3, eLw3', eLw2, eLw2', g3, g2, eb7L, eb7L', eb7b4, eb7b4', eb7b2, eb7b2', eb7w2, eb7w2', eb7w3, eb7w3', vb7] <;> first | exact ⟨rfl, rfl⟩ | exact rfl) rfl rfl (by first | decide | (simp [ints, four]; done) | (simp [ints, four]; omega)) rfl) ?_
    refine a_nil ?_
    refine ⟨⟨.busy, none, by simp [View.set, k0, k1, k2, eb4b2, eb4b2', ew2b2, ew2b2', ew2b4, ew2b4', ew3b2, ew3b2', ew3b4, ew3b4', ew3w2, ew3w2', eLb2, eLb2', eLb4, eLb4', eLw3, eLw3', eLw2, eLw2', g3, g2, eb7L, eb7L', eb7b4, eb7b4', eb7b2, eb7b2', eb7w2, eb7w2', eb7w3, eb7w3', vb7]⟩, by simp [View.set, k0, k1, k2, eb4b2, eb4b2', ew2b2, ew2b2', ew2b4, ew2b4', ew3b2, ew3b2', ew3b4, ew3b4', ew3w2, ew3w2', eLb2, eLb2', eLb4, eLb4', eLw3, eLw3', eLw2, eLw2', g3, g2, eb7L, eb7L', eb7b4, eb7b4', eb7b2, eb7b2', eb7w2, eb7w2', eb7w3, eb7w3', vb7], by simp [View.set, k0, k1, k2, eb4b2, eb4b2', ew2b2, ew2b2', ew2b4, ew2b4', ew3b2, ew3b2', ew3b4, ew3b4', ew3w2, ew3w2', eLb2, eLb2', eLb4, eLb4', eLw3, eLw3', eLw2, eLw2', g3, g2, eb7L, eb7L', eb7b4, eb7b4', eb7b2, eb7b2', eb7w2, eb7w2', eb7w3, eb7w3', vb7], true, rfl, fun _ => ⟨(View.set_same _ _ _).trans (congrArg some hlo), by simp [View.set, k0, k1, k2, eb4b2, eb4b2', ew2b2, ew2b2', ew2b4, ew2b4', ew3b2, ew3b2', ew3b4, ew3b4', ew3w2, ew3w2', eLb2, eLb2', eLb4, eLb4', eLw3, eLw3', eLw2, eLw2', g3, g2, eb7L, eb7L', eb7b4, eb7b4', eb7b2, eb7b2', eb7w2, eb7w2', eb7w3, eb7w3', vb7] <;> rfl, by simp [View.set, k0, k1, k2, eb4b2, eb4b2', ew2b2, ew2b2', ew2b4, ew2b4', ew3b2, ew3b2', ew3b4, ew3b4', ew3w2, ew3w2', eLb2, eLb2', eLb4, eLb4', eLw3, eLw3', eLw2, eLw2', g3, g2, eb7L, eb7L', eb7b4, eb7b4', eb7b2, eb7b2', eb7w2, eb7w2', eb7w3, eb7w3', vb7] <;> rfl, ?_⟩, fun h => by cases h⟩
    refine View.le_set (View.le_set (View.le_set (View.le_set (View.le_set kl ?_) ?_) ?_) ?_) ?_ <;> first | assumption | exact View.le_none kl (by assumption)
  · rintro V₁ ⟨k0, k1, k2, kl⟩
    refine ⟨.ready, none, by rw [k0, ← hlo], by simp, ?_⟩
    refine a_seq (a_region ?_)
    refine a_v rfl (s_load Try.sh24 (ev_t rfl) (by simp [View.set, View.drop, k0, k1, k2, vb2, eb4b2, eb4b2', vb4, ew2b2, ew2b2', ew2b4, ew2b4', vw2, ew3b2, ew3b2', ew3b4, ew3b4', vw3, ew3w2, ew3w2', eLb2, eLb2', eLb4, eLb4', eLw3, eLw3', eLw2, eLw2', vL] <;> first | exact ⟨rfl, rfl⟩ | exact rfl) rdA) ?_
    refine a_s (s_storew Try.sh24 (ev_t rfl) (ev_t rfl) (by simp [View.set, View.drop, k0, k1, k2, vb2, eb4b2, eb4b2', vb4, ew2b2, ew2b2', ew2b4, ew2b4', vw2, ew3b2, ew3b2', ew3b4, ew3b4', vw3, ew3w2, ew3w2', eLb2, eLb2', eLb4, eLb4', eLw3, eLw3', eLw2, eLw2', vL] <;> first | exact ⟨rfl, rfl⟩ | exact rfl) rfl rfl (by first | decide | (simp [ints, four]; done) | (simp [ints, four]; omega)) wrA) ?_
    refine a_v rfl (s_assign ev_c) ?_
    refine a_nil ?_
    refine a_ret ?_
    exact ⟨[_, _], V, ⟨_, _, true, 4, b2, 0, _, none, rfl, Try.sh24, ev_t rfl, by simp [View.set, k0, k1, k2, vb2, eb4b2, eb4b2', vb4, ew2b2, ew2b2', ew2b4, ew2b4', vw2, ew3b2, ew3b2', ew3b4, ew3b4', vw3, ew3w2, ew3w2', eLb2, eLb2', eLb4, eLb4', eLw3, eLw3', eLw2, eLw2', vL], rdA, _, _, rfl, ev_t rfl, rfl⟩, View.le_set (View.le_drop kl vL) vb2, rfl, rfl⟩
#print axioms bk_sum
def peakF (U : Nat → Int) (cs : Ch) : Nat → (Nat → Int)
  | 0 => U
  | i + 1 => fun k => max (peakF U cs i k) (run U cs (i + 1) k)
theorem four_eq {f g : Nat → Int} (h : ∀ k, k < 4 → f k = g k) : four f = four g := by simp [four, h 0, h 1, h 2, h 3]
theorem okB.small {A U : Nat → Int} (h : okB A U) : four U = four (fun k => if k < 4 then U k else 0) ∧ small (fun k => if k < 4 then U k else 0) :=
  ⟨four_eq fun k hk => by simp [hk], fun k => by by_cases hk : k < 4 <;> simp [hk]; have := h k hk; omega⟩
theorem bk_peak {A U : Nat → Int} {cs : Ch} (hb : okB A U) (hU : small U) (h : okC cs) (V : View) : ACalls Try.prog 12 [.agg (bk A U), .tree 2 (chs cs)] V fun x V' => x = .tuple [.agg (ints (four (peakF U cs cs.length))), iv 0] ∧ V' = V := by
  refine a_fn (fn := Try.f12) Try.func12 rfl ?_ rfl
  refine a_seq (a_region ?_)
  refine a_vp rfl (s_box (ev_t rfl) rfl) fun x V' hx => ?_
  obtain ⟨b2, nb2, rfl, rfl⟩ := hx
  have vb2 : V b2 = none := by simpa [View.set, ] using nb2
  refine a_vp rfl (s_alloc Try.z24) fun x V' hx => ?_
  obtain ⟨b4, nb4, rfl, rfl⟩ := hx
  have eb4b2 : ¬ b4 = b2 := by rintro rfl; simp [View.set, vb2] at nb4
  have eb4b2' : ¬ b2 = b4 := fun h => eb4b2 h.symm
  have vb4 : V b4 = none := by simpa [View.set, vb2, eb4b2, eb4b2'] using nb4
  refine a_v rfl (s_assign ev_c) ?_
  refine a_nil ?_
  refine a_seq (a_seq (a_region ?_))
  refine a_v rfl (s_load Try.sh49 (ev_t rfl) (by simp [View.set, View.drop, vb2, eb4b2, eb4b2', vb4] <;> first | exact ⟨rfl, rfl⟩ | exact rfl) bkA) ?_
  refine a_v rfl (s_move (ev_t rfl)) ?_
  refine a_vp rfl (s_call Try.okF41 ev_f (.cons (ev_t rfl) (.cons (ev_t rfl) .nil)) (bk_both hb h _)) fun x V' hx => ?_
  obtain ⟨rfl, rfl⟩ := hx
  refine a_v rfl (s_assign (ev_t rfl)) ?_
  refine a_nil ?_
  refine a_seq (a_region ?_)
  refine a_v rfl (s_move (ev_t rfl)) ?_
  refine a_v rfl (s_cmp (ev_t rfl) ev_c rfl) ?_
  refine a_nil ?_
  refine a_cond (ev_t rfl) (fun hc => ?_) (fun hc => a_skip ?_)
  · exfalso; simp at hc
  refine a_seq (a_region ?_)
  refine a_v rfl (s_fieldAddr Try.f49_1 rfl (ev_t rfl)) ?_
  refine a_v rfl (s_load Try.sh24 (ev_t rfl) (by simp [View.set, View.drop, vb2, eb4b2, eb4b2', vb4] <;> first | exact ⟨rfl, rfl⟩ | exact rfl) bkAU) ?_
  refine a_vp rfl (s_alloc Try.z24) fun x V' hx => ?_
  obtain ⟨b7, nb7, rfl, rfl⟩ := hx
  have eb7b2 : ¬ b7 = b2 := by rintro rfl; simp [View.set, vb2, eb4b2, eb4b2', vb4] at nb7
  have eb7b2' : ¬ b2 = b7 := fun h => eb7b2 h.symm
  have eb7b4 : ¬ b7 = b4 := by rintro rfl; simp [View.set, vb2, eb4b2, eb4b2', vb4, eb7b2, eb7b2'] at nb7
  have eb7b4' : ¬ b4 = b7 := fun h => eb7b4 h.symm
  have vb7 : V b7 = none := by simpa [View.set, vb2, eb4b2, eb4b2', vb4, eb7b2, eb7b2', eb7b4, eb7b4'] using nb7
  refine a_s (s_storew Try.sh24 (ev_t rfl) (ev_t rfl) (by simp [View.set, View.drop, vb2, eb4b2, eb4b2', vb4, eb7b2, eb7b2', eb7b4, eb7b4', vb7] <;> first | exact ⟨rfl, rfl⟩ | exact rfl) rfl rfl (by first | decide | (simp [ints, four]; done) | (simp [ints, four]; omega)) (wrA (f := zf))) ?_
  refine a_nil ?_
  refine a_seq (a_seq (a_region ?_))
  refine a_v rfl (s_fieldAddr Try.f49_1 rfl (ev_t rfl)) ?_
  refine a_v rfl (s_load Try.sh24 (ev_t rfl) (by simp [View.set, View.drop, vb2, eb4b2, eb4b2', vb4, eb7b2, eb7b2', eb7b4, eb7b4', vb7] <;> first | exact ⟨rfl, rfl⟩ | exact rfl) bkAU) ?_
  refine a_v rfl (s_move (ev_t rfl)) ?_
  refine a_vp rfl (s_call Try.okF42 ev_f (.cons (ev_t rfl) (.cons (ev_t rfl) .nil)) (bk_way0 U cs _)) fun x V' hx => ?_
  obtain ⟨w2, w3, nw2, ew3w2, nw3, rfl, rfl⟩ := hx
  refine a_nil ?_
  have ew3w2' : ¬ w2 = w3 := fun h => ew3w2 h.symm
  have ew2b2 : ¬ w2 = b2 := by rintro rfl; simp [View.set, vb2, eb4b2, eb4b2', vb4, eb7b2, eb7b2', eb7b4, eb7b4', vb7] at nw2
  have ew2b2' : ¬ b2 = w2 := fun h => ew2b2 h.symm
  have ew2b4 : ¬ w2 = b4 := by rintro rfl; simp [View.set, vb2, eb4b2, eb4b2', vb4, eb7b2, eb7b2', eb7b4, eb7b4', vb7, ew2b2, ew2b2'] at nw2
  have ew2b4' : ¬ b4 = w2 := fun h => ew2b4 h.symm
  have ew2b7 : ¬ w2 = b7 := by rintro rfl; simp [View.set, vb2, eb4b2, eb4b2', vb4, eb7b2, eb7b2', eb7b4, eb7b4', vb7, ew2b2, ew2b2', ew2b4, ew2b4'] at nw2
  have ew2b7' : ¬ b7 = w2 := fun h => ew2b7 h.symm
  have vw2 : V w2 = none := by simpa [View.set, vb2, eb4b2, eb4b2', vb4, eb7b2, eb7b2', eb7b4, eb7b4', vb7, ew2b2, ew2b2', ew2b4, ew2b4', ew2b7, ew2b7'] using nw2
  have ew3b2 : ¬ w3 = b2 := by rintro rfl; simp [View.set, vb2, eb4b2, eb4b2', vb4, eb7b2, eb7b2', eb7b4, eb7b4', vb7, ew2b2, ew2b2', ew2b4, ew2b4', ew2b7, ew2b7', vw2] at nw3
  have ew3b2' : ¬ b2 = w3 := fun h => ew3b2 h.symm
  have ew3b4 : ¬ w3 = b4 := by rintro rfl; simp [View.set, vb2, eb4b2, eb4b2', vb4, eb7b2, eb7b2', eb7b4, eb7b4', vb7, ew2b2, ew2b2', ew2b4, ew2b4', ew2b7, ew2b7', vw2, ew3b2, ew3b2'] at nw3
  have ew3b4' : ¬ b4 = w3 := fun h => ew3b4 h.symm
  have ew3b7 : ¬ w3 = b7 := by rintro rfl; simp [View.set, vb2, eb4b2, eb4b2', vb4, eb7b2, eb7b2', eb7b4, eb7b4', vb7, ew2b2, ew2b2', ew2b4, ew2b4', ew2b7, ew2b7', vw2, ew3b2, ew3b2', ew3b4, ew3b4'] at nw3
  have ew3b7' : ¬ b7 = w3 := fun h => ew3b7 h.symm
  have vw3 : V w3 = none := by simpa [View.set, vb2, eb4b2, eb4b2', vb4, eb7b2, eb7b2', eb7b4, eb7b4', vb7, ew2b2, ew2b2', ew2b4, ew2b4', ew2b7, ew2b7', vw2, ew3b2, ew3b2', ew3b4, ew3b4', ew3b7, ew3b7'] using nw3
  refine a_block ?_
  refine a_range (fs := []) (cap := [_, _]) Try.okF66 (ev_t rfl) fun L nL => ?_
  generalize hlo : AObj.loop LoopState.ready none _ _ _ _ = lo
  have eLb2 : ¬ L = b2 := by rintro rfl; simp [View.set, vb2, eb4b2, eb4b2', vb4, eb7b2, eb7b2', eb7b4, eb7b4', vb7, ew2b2, ew2b2', ew2b4, ew2b4', ew2b7, ew2b7', vw2, ew3b2, ew3b2', ew3b4, ew3b4', ew3b7, ew3b7', vw3, ew3w2, ew3w2'] at nL
  have eLb2' : ¬ b2 = L := fun h => eLb2 h.symm
  have eLb4 : ¬ L = b4 := by rintro rfl; simp [View.set, vb2, eb4b2, eb4b2', vb4, eb7b2, eb7b2', eb7b4, eb7b4', vb7, ew2b2, ew2b2', ew2b4, ew2b4', ew2b7, ew2b7', vw2, ew3b2, ew3b2', ew3b4, ew3b4', ew3b7, ew3b7', vw3, ew3w2, ew3w2', eLb2, eLb2'] at nL
  have eLb4' : ¬ b4 = L := fun h => eLb4 h.symm
  have eLb7 : ¬ L = b7 := by rintro rfl; simp [View.set, vb2, eb4b2, eb4b2', vb4, eb7b2, eb7b2', eb7b4, eb7b4', vb7, ew2b2, ew2b2', ew2b4, ew2b4', ew2b7, ew2b7', vw2, ew3b2, ew3b2', ew3b4, ew3b4', ew3b7, ew3b7', vw3, ew3w2, ew3w2', eLb2, eLb2', eLb4, eLb4'] at nL
  have eLb7' : ¬ b7 = L := fun h => eLb7 h.symm
  have eLw3 : ¬ L = w3 := by rintro rfl; simp [View.set, vb2, eb4b2, eb4b2', vb4, eb7b2, eb7b2', eb7b4, eb7b4', vb7, ew2b2, ew2b2', ew2b4, ew2b4', ew2b7, ew2b7', vw2, ew3b2, ew3b2', ew3b4, ew3b4', ew3b7, ew3b7', vw3, ew3w2, ew3w2', eLb2, eLb2', eLb4, eLb4', eLb7, eLb7'] at nL
  have eLw3' : ¬ w3 = L := fun h => eLw3 h.symm
  have eLw2 : ¬ L = w2 := by rintro rfl; simp [View.set, vb2, eb4b2, eb4b2', vb4, eb7b2, eb7b2', eb7b4, eb7b4', vb7, ew2b2, ew2b2', ew2b4, ew2b4', ew2b7, ew2b7', vw2, ew3b2, ew3b2', ew3b4, ew3b4', ew3b7, ew3b7', vw3, ew3w2, ew3w2', eLb2, eLb2', eLb4, eLb4', eLb7, eLb7', eLw3, eLw3'] at nL
  have eLw2' : ¬ w2 = L := fun h => eLw2 h.symm
  have vL : V L = none := by simpa [View.set, vb2, eb4b2, eb4b2', vb4, eb7b2, eb7b2', eb7b4, eb7b4', vb7, ew2b2, ew2b2', ew2b4, ew2b4', ew2b7, ew2b7', vw2, ew3b2, ew3b2', ew3b4, ew3b4', ew3b7, ew3b7', vw3, ew3w2, ew3w2', eLb2, eLb2', eLb4, eLb4', eLb7, eLb7', eLw3, eLw3', eLw2, eLw2'] using nL
  refine bk_way (fun i V₁ => V₁ L = some lo ∧ V₁ b2 = some (.row (bk A U)) ∧ V₁ b4 = some (.row (ints (four zf))) ∧ V₁ b7 = some (.row (ints (four (peakF U cs i)))) ∧ View.le V V₁) (fun c => V c ≠ none ∨ c = L ∨ c = b2 ∨ c = b4 ∨ c = b7) h hU ?_ ?_ ?_ ?_ ew3w2 ?_ ?_ ?_ ?_ ?_
  · rintro i V₁ V₂ he ⟨k0, k1, k2, k3, kl⟩
    exact ⟨by rw [he _ (by simp)]; exact k0, by rw [he _ (by simp)]; exact k1, by rw [he _ (by simp)]; exact k2, by rw [he _ (by simp)]; exact k3, fun c o hc => by rw [he c (.inl (by rw [hc]; simp))]; exact kl c o hc⟩
  · rintro i V₁ ⟨k0, k1, k2, k3, kl⟩ c (hc | rfl | rfl | rfl | rfl)
    · intro hn; cases ho : V c with
      | none => exact hc ho
      | some o => rw [kl c o ho] at hn; cases hn
    · rw [k0]; simp
    · rw [k1]; simp
    · rw [k2]; simp
    · rw [k3]; simp
  · simp [vb2, eb4b2, eb4b2', vb4, eb7b2, eb7b2', eb7b4, eb7b4', vb7, ew2b2, ew2b2', ew2b4, ew2b4', ew2b7, ew2b7', vw2, ew3b2, ew3b2', ew3b4, ew3b4', ew3b7, ew3b7', vw3, ew3w2, ew3w2', eLb2, eLb2', eLb4, eLb4', eLb7, eLb7', eLw3, eLw3', eLw2, eLw2', vL]
  · simp [vb2, eb4b2, eb4b2', vb4, eb7b2, eb7b2', eb7b4, eb7b4', vb7, ew2b2, ew2b2', ew2b4, ew2b4', ew2b7, ew2b7', vw2, ew3b2, ew3b2', ew3b4, ew3b4', ew3b7, ew3b7', vw3, ew3w2, ew3w2', eLb2, eLb2', eLb4, eLb4', eLb7, eLb7', eLw3, eLw3', eLw2, eLw2', vL]
  · simp [View.set, vb2, eb4b2, eb4b2', vb4, eb7b2, eb7b2', eb7b4, eb7b4', vb7, ew2b2, ew2b2', ew2b4, ew2b4', ew2b7, ew2b7', vw2, ew3b2, ew3b2', ew3b4, ew3b4', ew3b7, ew3b7', vw3, ew3w2, ew3w2', eLb2, eLb2', eLb4, eLb4', eLb7, eLb7', eLw3, eLw3', eLw2, eLw2', vL]
  · simp [View.set, vb2, eb4b2, eb4b2', vb4, eb7b2, eb7b2', eb7b4, eb7b4', vb7, ew2b2, ew2b2', ew2b4, ew2b4', ew2b7, ew2b7', vw2, ew3b2, ew3b2', ew3b4, ew3b4', ew3b7, ew3b7', vw3, ew3w2, ew3w2', eLb2, eLb2', eLb4, eLb4', eLb7, eLb7', eLw3, eLw3', eLw2, eLw2', vL] <;> rfl
  · exact ⟨by simp [View.set], by simp [View.set, vb2, eb4b2, eb4b2', vb4, eb7b2, eb7b2', eb7b4, eb7b4', vb7, ew2b2, ew2b2', ew2b4, ew2b4', ew2b7, ew2b7', vw2, ew3b2, ew3b2', ew3b4, ew3b4', ew3b7, ew3b7', vw3, ew3w2, ew3w2', eLb2, eLb2', eLb4, eLb4', eLb7, eLb7', eLw3, eLw3', eLw2, eLw2', vL] <;> rfl, by simp [View.set, vb2, eb4b2, eb4b2', vb4, eb7b2, eb7b2', eb7b4, eb7b4', vb7, ew2b2, ew2b2', ew2b4, ew2b4', ew2b7, ew2b7', vw2, ew3b2, ew3b2', ew3b4, ew3b4', ew3b7, ew3b7', vw3, ew3w2, ew3w2', eLb2, eLb2', eLb4, eLb4', eLb7, eLb7', eLw3, eLw3', eLw2, eLw2', vL] <;> rfl, by simp [View.set, vb2, eb4b2, eb4b2', vb4, eb7b2, eb7b2', eb7b4, eb7b4', vb7, ew2b2, ew2b2', ew2b4, ew2b4', ew2b7, ew2b7', vw2, ew3b2, ew3b2', ew3b4, ew3b4', ew3b7, ew3b7', vw3, ew3w2, ew3w2', eLb2, eLb2', eLb4, eLb4', eLb7, eLb7', eLw3, eLw3', eLw2, eLw2', vL] <;> rfl, by repeat (first | exact View.le_refl _ | refine View.le_set ?_ (by assumption))⟩
  · rintro i V₁ hi ⟨k0, k1, k2, k3, kl⟩ g3 g2
    refine a_round (pend := none) (by rw [k0, ← hlo]) rfl rfl ?_
    refine a_region ?_
    refine a_vp rfl (s_alloc Try.z24) fun x V' hx => ?_
    obtain ⟨b9, nb9, rfl, rfl⟩ := hx
    have eb9L : ¬ b9 = L := by rintro rfl; simp [View.set, k0, k1, k2, k3, g3, g2, eb4b2, eb4b2', eb7b2, eb7b2', eb7b4, eb7b4', ew2b2, ew2b2', ew2b4, ew2b4', ew2b7, ew2b7', ew3b2, ew3b2', ew3b4, ew3b4', ew3b7, ew3b7', ew3w2, ew3w2', eLb2, eLb2', eLb4, eLb4', eLb7, eLb7', eLw3, eLw3', eLw2, eLw2'] at nb9
    have eb9L' : ¬ L = b9 := fun h => eb9L h.symm
    have eb9b7 : ¬ b9 = b7 := by rintro rfl; simp [View.set, k0, k1, k2, k3, g3, g2, eb4b2, eb4b2', eb7b2, eb7b2', eb7b4, eb7b4', ew2b2, ew2b2', ew2b4, ew2b4', ew2b7, ew2b7', ew3b2, ew3b2', ew3b4, ew3b4', ew3b7, ew3b7', ew3w2, ew3w2', eLb2, eLb2', eLb4, eLb4', eLb7, eLb7', eLw3, eLw3', eLw2, eLw2', eb9L, eb9L'] at nb9
    have eb9b7' : ¬ b7 = b9 := fun h => eb9b7 h.symm
    have eb9b4 : ¬ b9 = b4 := by rintro rfl; simp [View.set, k0, k1, k2, k3, g3, g2, eb4b2, eb4b2', eb7b2, eb7b2', eb7b4, eb7b4', ew2b2, ew2b2', ew2b4, ew2b4', ew2b7, ew2b7', ew3b2, ew3b2', ew3b4, ew3b4', ew3b7, ew3b7', ew3w2, ew3w2', eLb2, eLb2', eLb4, eLb4', eLb7, eLb7', eLw3, eLw3', eLw2, eLw2', eb9L, eb9L', eb9b7, eb9b7'] at nb9
    have eb9b4' : ¬ b4 = b9 := fun h => eb9b4 h.symm
    have eb9b2 : ¬ b9 = b2 := by rintro rfl; simp [View.set, k0, k1, k2, k3, g3, g2, eb4b2, eb4b2', eb7b2, eb7b2', eb7b4, eb7b4', ew2b2, ew2b2', ew2b4, ew2b4', ew2b7, ew2b7', ew3b2, ew3b2', ew3b4, ew3b4', ew3b7, ew3b7', ew3w2, ew3w2', eLb2, eLb2', eLb4, eLb4', eLb7, eLb7', eLw3, eLw3', eLw2, eLw2', eb9L, eb9L', eb9b7, eb9b7', eb9b4, eb9b4'] at nb9
    have eb9b2' : ¬ b2 = b9 := fun h => eb9b2 h.symm
    have eb9w2 : ¬ b9 = w2 := by rintro rfl; simp [View.set, k0, k1, k2, k3, g3, g2, eb4b2, eb4b2', eb7b2, eb7b2', eb7b4, eb7b4', ew2b2, ew2b2', ew2b4, ew2b4', ew2b7, ew2b7', ew3b2, ew3b2', ew3b4, ew3b4', ew3b7, ew3b7', ew3w2, ew3w2', eLb2, eLb2', eLb4, eLb4', eLb7, eLb7', eLw3, eLw3', eLw2, eLw2', eb9L, eb9L', eb9b7, eb9b7', eb9b4, eb9b4', eb9b2, eb9b2'] at nb9
    have eb9w2' : ¬ w2 = b9 := fun h => eb9w2 h.symm
    have eb9w3 : ¬ b9 = w3 := by rintro rfl; simp [View.set, k0, k1, k2, k3, g3, g2, eb4b2, eb4b2', eb7b2, eb7b2', eb7b4, eb7b4', ew2b2, ew2b2', ew2b4, ew2b4', ew2b7, ew2b7', ew3b2, ew3b2', ew3b4, ew3b4', ew3b7, ew3b7', ew3w2, ew3w2', eLb2, eLb2', eLb4, eLb4', eLb7, eLb7', eLw3, eLw3', eLw2, eLw2', eb9L, eb9L', eb9b7, eb9b7', eb9b4, eb9b4', eb9b2, eb9b2', eb9w2, eb9w2'] at nb9
    have eb9w3' : ¬ w3 = b9 := fun h => eb9w3 h.symm
    have vb9 : V₁ b9 = none := by simpa [View.set, k0, k1, k2, k3, g3, g2, eb4b2, eb4b2', eb7b2, eb7b2', eb7b4, eb7b4', ew2b2, ew2b2', ew2b4, ew2b4', ew2b7, ew2b7', ew3b2, ew3b2', ew3b4, ew3b4', ew3b7, ew3b7', ew3w2, ew3w2', eLb2, eLb2', eLb4, eLb4', eLb7, eLb7', eLw3, eLw3', eLw2, eLw2', eb9L, eb9L', eb9b7, eb9b7', eb9b4, eb9b4', eb9b2, eb9b2', eb9w2, eb9w2', eb9w3, eb9w3'] using nb9
    refine a_s (s_store Try.sh24 (ev_t rfl) (ev_t rfl) (by simp [View.set, View.drop, k0, k1, k2, k3, g3, g2, eb4b2, eb4b2', eb7b2, eb7b2', eb7b4, eb7b4', ew2b2, ew2b2', ew2b4, ew2b4', ew2b7, ew2b7', ew3b2, ew3b2', ew3b4, ew3b4', ew3b7, ew3b7', ew3w2, ew3w2', eLb2, eLb2', eLb4, eLb4', eLb7, eLb7', eLw3, eLw3', eLw2, eLw2', eb9L, eb9L', eb9b7, eb9b7', eb9b4, eb9b4', eb9b2, eb9b2', eb9w2, eb9w2', eb9w3, eb9w3', vb9] <;> first | exact ⟨rfl, rfl⟩ | exact rfl) rfl rfl (by first | decide | (simp [ints, four]; done) | (simp [ints, four]; omega))) ?_
    refine a_nil ?_
    refine ⟨by rw [hlo]; simp [View.set, k0, k1, k2, k3, g3, g2, eb4b2, eb4b2', eb7b2, eb7b2', eb7b4, eb7b4', ew2b2, ew2b2', ew2b4, ew2b4', ew2b7, ew2b7', ew3b2, ew3b2', ew3b4, ew3b4', ew3b7, ew3b7', ew3w2, ew3w2', eLb2, eLb2', eLb4, eLb4', eLb7, eLb7', eLw3, eLw3', eLw2, eLw2', eb9L, eb9L', eb9b7, eb9b7', eb9b4, eb9b4', eb9b2, eb9b2', eb9w2, eb9w2', eb9w3, eb9w3', vb9], ?_⟩
    refine a_block ?_
    refine a_seq (a_region ?_)
    refine a_v rfl (s_load Try.sh24 (ev_t rfl) (by simp [View.set, View.drop, k0, k1, k2, k3, g3, g2, eb4b2, eb4b2', eb7b2, eb7b2', eb7b4, eb7b4', ew2b2, ew2b2', ew2b4, ew2b4', ew2b7, ew2b7', ew3b2, ew3b2', ew3b4, ew3b4', ew3b7, ew3b7', ew3w2, ew3w2', eLb2, eLb2', eLb4, eLb4', eLb7, eLb7', eLw3, eLw3', eLw2, eLw2', eb9L, eb9L', eb9b7, eb9b7', eb9b4, eb9b4', eb9b2, eb9b2', eb9w2, eb9w2', eb9w3, eb9w3', vb9] <;> first | exact ⟨rfl, rfl⟩ | exact rfl) rdA) ?_
    refine a_v rfl (s_move ev_c) ?_
    refine a_nil ?_
    refine a_block ?_
    refine a_loop (fun n st V' => ∃ (j : Nat) (l : List (Nat × AVal)), n = 4 - j ∧ j ≤ 4 ∧ st = ⟨l, 41⟩ ∧ SubT [(28, iv j), (27, .agg (ints (four (run U cs (i + 1))))), (7, pt b7 0)] l ∧
      V' L = some (.loop .busy none _ _ _ _) ∧ V' b2 = some (.row (bk A U)) ∧ V' b4 = some (.row (ints (four zf))) ∧ V' b7 = some (.row (ints (four (fun k => if k < j then max (peakF U cs i k) (run U cs (i + 1) k) else peakF U cs i k)))) ∧ V' w3 = some (.row [.tree 2 (chs cs)]) ∧ V' w2 = some (.row (ints (four (run U cs (i + 1))))) ∧ View.le V V') ?_ 4 _ _
      ⟨0, _, rfl, by omega, rfl, ⟨rfl, rfl, rfl, trivial⟩, View.set_same _ _ _, by simp [View.set, k0, k1, k2, k3, g3, g2, eb4b2, eb4b2', eb7b2, eb7b2', eb7b4, eb7b4', ew2b2, ew2b2', ew2b4, ew2b4', ew2b7, ew2b7', ew3b2, ew3b2', ew3b4, ew3b4', ew3b7, ew3b7', ew3w2, ew3w2', eLb2, eLb2', eLb4, eLb4', eLb7, eLb7', eLw3, eLw3', eLw2, eLw2', eb9L, eb9L', eb9b7, eb9b7', eb9b4, eb9b4', eb9b2, eb9b2', eb9w2, eb9w2', eb9w3, eb9w3', vb9], by simp [View.set, k0, k1, k2, k3, g3, g2, eb4b2, eb4b2', eb7b2, eb7b2', eb7b4, eb7b4', ew2b2, ew2b2', ew2b4, ew2b4', ew2b7, ew2b7', ew3b2, ew3b2', ew3b4, ew3b4', ew3b7, ew3b7', ew3w2, ew3w2', eLb2, eLb2', eLb4, eLb4', eLb7, eLb7', eLw3, eLw3', eLw2, eLw2', eb9L, eb9L', eb9b7, eb9b7', eb9b4, eb9b4', eb9b2, eb9b2', eb9w2, eb9w2', eb9w3, eb9w3', vb9], by simp [View.set, k0, k1, k2, k3, g3, g2, eb4b2, eb4b2', eb7b2, eb7b2', eb7b4, eb7b4', ew2b2, ew2b2', ew2b4, ew2b4', ew2b7, ew2b7', ew3b2, ew3b2', ew3b4, ew3b4', ew3b7, ew3b7', ew3w2, ew3w2', eLb2, eLb2', eLb4, eLb4', eLb7, eLb7', eLw3, eLw3', eLw2, eLw2', eb9L, eb9L', eb9b7, eb9b7', eb9b4, eb9b4', eb9b2, eb9b2', eb9w2, eb9w2', eb9w3, eb9w3', vb9], by simp [View.set, k0, k1, k2, k3, g3, g2, eb4b2, eb4b2', eb7b2, eb7b2', eb7b4, eb7b4', ew2b2, ew2b2', ew2b4, ew2b4', ew2b7, ew2b7', ew3b2, ew3b2', ew3b4, ew3b4', ew3b7, ew3b7', ew3w2, ew3w2', eLb2, eLb2', eLb4, eLb4', eLb7, eLb7', eLw3, eLw3', eLw2, eLw2', eb9L, eb9L', eb9b7, eb9b7', eb9b4, eb9b4', eb9b2, eb9b2', eb9w2, eb9w2', eb9w3, eb9w3', vb9], by simp [View.set, k0, k1, k2, k3, g3, g2, eb4b2, eb4b2', eb7b2, eb7b2', eb7b4, eb7b4', ew2b2, ew2b2', ew2b4, ew2b4', ew2b7, ew2b7', ew3b2, ew3b2', ew3b4, ew3b4', ew3b7, ew3b7', ew3w2, ew3w2', eLb2, eLb2', eLb4, eLb4', eLb7, eLb7', eLw3, eLw3', eLw2, eLw2', eb9L, eb9L', eb9b7, eb9b7', eb9b4, eb9b4', eb9b2, eb9b2', eb9w2, eb9w2', eb9w3, eb9w3', vb9], ?_⟩
    rotate_left
    · repeat refine View.le_set ?_ ?_
      all_goals first | assumption | exact View.le_none kl (by assumption)
    rintro n st V' ⟨j, l, rfl, hj, rfl, hs, q0, q1, q2, q7, q3, qw, ql⟩
    refine a_forget hs ?_
    refine a_seq (a_region ?_)
    refine a_v rfl (s_cmp (ev_t rfl) ev_c rfl) ?_
    refine a_nil ?_
    refine a_seq (a_cond (ev_t rfl) (fun hc => a_skip ?_) (fun hc => a_exit ?_))
    · have hj' : j < 4 := by simp at hc; omega
      have hw : upd (fun k => if k < j then max (peakF U cs i k) (run U cs (i + 1) k) else peakF U cs i k) j (max (peakF U cs i j) (run U cs (i + 1) j)) = (fun k => if k < j + 1 then max (peakF U cs i k) (run U cs (i + 1) k) else peakF U cs i k) := by
        funext k; simp only [upd]; by_cases h1 : k = j
        · subst h1; simp
        · by_cases h2 : k < j
          · simp [h1, h2, Nat.lt_succ_of_lt h2]
          · simp [h1, h2, show ¬ k < j + 1 by omega]
      refine a_seq (a_block ?_)
      refine a_seq (a_region ?_)
      refine a_v rfl (s_move (ev_t rfl)) ?_
      refine a_v rfl (s_index Try.ar24 (ev_t rfl) (ev_t rfl) (by omega) (by omega) (rd4 hj' (by simp))) ?_
      refine a_v rfl (s_assign (ev_t rfl)) ?_
      refine a_v rfl (s_assign (ev_t rfl)) ?_
      refine a_nil ?_
      refine a_region ?_
      refine a_v rfl (s_move (ev_t rfl)) ?_
      refine a_v rfl (s_move (ev_t rfl)) ?_
      refine a_v rfl (s_idxa Try.ar24 (ev_t rfl) (ev_t rfl) (by omega) (by omega)) ?_
      refine a_v rfl (s_load Try.sh3 (ev_t rfl) q7 (rd4 hj' (by simp))) ?_
      refine a_v rfl (s_move (ev_t rfl)) ?_
      refine a_v rfl (s_max (ev_t rfl) (ev_t rfl)) ?_
      refine a_v rfl (s_idxa Try.ar24 (ev_t rfl) (ev_t rfl) (by omega) (by omega)) ?_
      refine a_s (s_storew Try.sh3 (ev_t rfl) (ev_t rfl) q7 rfl rfl (by simp [ints, four]; omega) ((wr4 hj' (by simp)).trans (by simp only [Nat.lt_irrefl, if_false]; rw [hw]))) ?_
      refine a_nil ?_
      refine a_region ?_
      refine a_v rfl (s_add (ev_t rfl) ev_c (by omega) (by omega)) ?_
      refine a_v rfl (s_move (ev_t rfl)) ?_
      refine a_nil ?_
      exact ⟨4 - (j + 1), by omega, j + 1, _, rfl, by omega, rfl, ⟨rfl, rfl, rfl, trivial⟩, by simp [View.set, q0, eLb7], by simp [View.set, q1, eb7b2'], by simp [View.set, q2, eb7b4'], View.set_same _ _ _, by simp [View.set, q3, ew3b7], by simp [View.set, qw, ew2b7], View.le_set ql vb7⟩
    repeat first | refine thenA_x ?_ | refine blockA_hit ?_ | refine blockA_x (by decide) ?_
    have hj4 : j = 4 := by simp at hc; omega
    subst hj4
    have hp : four (fun k => if k < 4 then max (peakF U cs i k) (run U cs (i + 1) k) else peakF U cs i k) = four (peakF U cs (i + 1)) := four_eq fun k hk => by simp [hk, peakF]
    rw [hp] at q7
    refine ⟨⟨.busy, none, q0⟩, by simp [View.set, q3, eLw3'], by simp [View.set, qw, eLw2'], true, rfl, fun _ => ⟨(View.set_same _ _ _).trans (congrArg some hlo), by simp [View.set, q1, eLb2'], by simp [View.set, q2, eLb4'], by simp [View.set, q7, eLb7'], View.le_set ql vL⟩, fun h => by cases h⟩
  · rintro V₁ ⟨k0, k1, k2, k3, kl⟩
    refine ⟨.ready, none, by rw [k0, ← hlo], by simp, ?_⟩
    refine a_seq (a_region ?_)
    refine a_v rfl (s_load Try.sh24 (ev_t rfl) (by simp [View.set, View.drop, k0, k1, k2, k3, vb2, eb4b2, eb4b2', vb4, eb7b2, eb7b2', eb7b4, eb7b4', vb7, ew2b2, ew2b2', ew2b4, ew2b4', ew2b7, ew2b7', vw2, ew3b2, ew3b2', ew3b4, ew3b4', ew3b7, ew3b7', vw3, ew3w2, ew3w2', eLb2, eLb2', eLb4, eLb4', eLb7, eLb7', eLw3, eLw3', eLw2, eLw2', vL] <;> first | exact ⟨rfl, rfl⟩ | exact rfl) rdA) ?_
    refine a_s (s_storew Try.sh24 (ev_t rfl) (ev_t rfl) (by simp [View.set, View.drop, k0, k1, k2, k3, vb2, eb4b2, eb4b2', vb4, eb7b2, eb7b2', eb7b4, eb7b4', vb7, ew2b2, ew2b2', ew2b4, ew2b4', ew2b7, ew2b7', vw2, ew3b2, ew3b2', ew3b4, ew3b4', ew3b7, ew3b7', vw3, ew3w2, ew3w2', eLb2, eLb2', eLb4, eLb4', eLb7, eLb7', eLw3, eLw3', eLw2, eLw2', vL] <;> first | exact ⟨rfl, rfl⟩ | exact rfl) rfl rfl (by first | decide | (simp [ints, four]; done) | (simp [ints, four]; omega)) wrA) ?_
    refine a_v rfl (s_assign ev_c) ?_
    refine a_nil ?_
    refine a_ret ?_
    exact ⟨[_, _], V, ⟨_, _, true, 4, b4, 0, _, none, rfl, Try.sh24, ev_t rfl, by simp [View.set, k0, k1, k2, k3, vb2, eb4b2, eb4b2', vb4, eb7b2, eb7b2', eb7b4, eb7b4', vb7, ew2b2, ew2b2', ew2b4, ew2b4', ew2b7, ew2b7', vw2, ew3b2, ew3b2', ew3b4, ew3b4', ew3b7, ew3b7', vw3, ew3w2, ew3w2', eLb2, eLb2', eLb4, eLb4', eLb7, eLb7', eLw3, eLw3', eLw2, eLw2', vL], rdA, _, _, rfl, ev_t rfl, rfl⟩, View.le_set (View.le_drop kl vL) vb4, rfl, rfl⟩
#print axioms bk_peak
end Go.Proofs
