import Derived.Test.YtapelipehckbcaaBkE
set_option linter.unusedVariables false
set_option linter.unusedSimpArgs false
namespace Go.AV
def nn1 : Nat → Int
  | 0 => 10
  | 1 => 5
  | 2 => 3
  | 3 => 8
  | _ => 0
def ls1 : Ch := [(0, 4), (0, -2), (0, 5), (2, 1)]
def ls2 : Ch := [(0, 7), (0, 5), (0, -6)]
def g1 : Nat → Int
  | 0 => 10
  | 1 => 1
  | 2 => 2
  | 3 => 2
  | _ => 0
theorem used1 : four (usedF nn1 (third nn1) (csOf ls1)) = four g1 := by decide
theorem used2 : four (usedF nn1 (third nn1) (csOf ls2)) = four zf := by decide
theorem ok_nn1 : ok8 nn1 := by
  intro k
  match k with
  | 0 => decide
  | 1 => decide
  | 2 => decide
  | 3 => decide
  | _ + 4 => exact ⟨by simp [nn1], by simp [nn1]⟩
theorem ok_ls1 : okE ls1 := by unfold okE; decide
theorem ok_ls2 : okE ls2 := by unfold okE; decide
end Go.AV
namespace Go.Proofs
open Go.AV
theorem bk_top {nn : Nat → Int} {ls : Ch} (hn : ok8 nn) (hl : okE ls) (V : View) : ACalls Try.prog 3 [.agg (u8s (four nn)), .tree 2 (els ls)] V fun x V' => x = .v (.bool true) ∧ V' = V := by
  refine a_fn (fn := Try.f3) Try.func3 rfl ?_ rfl
  refine a_seq (a_region ?_)
  refine a_vp rfl (s_box (ev_t rfl) rfl) fun x V' hx => ?_
  obtain ⟨b2, nb2, rfl, rfl⟩ := hx
  have vb2 : V b2 = none := by simpa [View.set, ] using nb2
  refine a_v rfl (s_assign ev_c) ?_
  refine a_nil ?_
  refine a_seq (a_region ?_)
  refine a_v rfl (s_builda (cs := u8s (four nn1)) Try.z22 Try.ar22 (.cons ev_c (.cons ev_c (.cons ev_c (.cons ev_c .nil)))) rfl) ?_
  refine a_v rfl (s_build (cs := [.v (.int .u8 0), .v (.int .i8 4)]) Try.z29 Try.pl29 (.cons ev_c (.cons ev_c .nil)) rfl) ?_
  refine a_v rfl (s_build (cs := [.v (.int .u8 0), .v (.int .i8 (-2))]) Try.z29 Try.pl29 (.cons ev_c (.cons ev_c .nil)) rfl) ?_
  refine a_v rfl (s_build (cs := [.v (.int .u8 0), .v (.int .i8 5)]) Try.z29 Try.pl29 (.cons ev_c (.cons ev_c .nil)) rfl) ?_
  refine a_v rfl (s_build (cs := [.v (.int .u8 2), .v (.int .i8 1)]) Try.z29 Try.pl29 (.cons ev_c (.cons ev_c .nil)) rfl) ?_
  refine a_v rfl (s_lit (els := els ls1) Try.sl23 Try.z29 rfl rfl (.cons (ev_t rfl) (.cons (ev_t rfl) (.cons (ev_t rfl) (.cons (ev_t rfl) .nil)))) rfl rfl rfl) ?_
  refine a_vp rfl (s_call Try.okF6 ev_f (.cons (ev_t rfl) (.cons (ev_t rfl) .nil)) (bk_booked ok_nn1 ok_ls1 _)) fun x V' hx => ?_
  obtain ⟨hx1, hVV⟩ := hx; rw [used1] at hx1; subst hx1; have hVV := hVV.symm; subst hVV
  refine a_v rfl (s_move (ev_t rfl)) ?_
  refine a_v rfl (s_extract (ev_t rfl) rfl) ?_
  refine a_v rfl (s_extract (ev_t rfl) rfl) ?_
  refine a_vp rfl (s_alloc Try.z24) fun x V' hx => ?_
  obtain ⟨b5, nb5, rfl, rfl⟩ := hx
  have eb5b2 : ¬ b5 = b2 := by rintro rfl; simp [View.set, vb2] at nb5
  have eb5b2' : ¬ b2 = b5 := fun h => eb5b2 h.symm
  have vb5 : V b5 = none := by simpa [View.set, vb2, eb5b2, eb5b2'] using nb5
  refine a_s (s_storew Try.sh24 (ev_t rfl) (ev_t rfl) (by simp [View.set, View.drop, vb2, eb5b2, eb5b2', vb5] <;> first | exact ⟨rfl, rfl⟩ | exact rfl) rfl rfl (by first | decide | (simp [ints, four]; done) | (simp [ints, four]; omega)) (wrA (f := zf))) ?_
  refine a_v rfl (s_assign (ev_t rfl)) ?_
  refine a_nil ?_
  refine a_seq (a_seq (a_region ?_))
  refine a_v rfl (s_move (ev_t rfl)) ?_
  refine a_v rfl (s_not (ev_t rfl)) ?_
  refine a_v rfl (s_move (ev_t rfl)) ?_
  refine a_f rfl (f_guard rfl (gd_b rfl (ev_t rfl)) fun h2 => s_load Try.sh24 (ev_t rfl) (by simp [View.set, View.drop, vb2, eb5b2, eb5b2', vb5] <;> first | exact ⟨rfl, rfl⟩ | exact rfl) rdA) ?_
  refine a_f rfl (f_guard rfl (gd_b rfl (ev_t rfl)) fun h2 => s_builda (cs := ints (four g1)) Try.z24 Try.ar24 (.cons ev_c (.cons ev_c (.cons ev_c (.cons ev_c .nil)))) rfl) ?_
  refine a_f rfl (f_guard rfl (gd_b rfl (ev_t rfl)) fun h2 => s_neq4 (ev_cond (ev_t rfl) h2) (ev_cond (ev_t rfl) h2)) ?_
  refine a_v rfl (s_pickor (ev_t rfl) (ev_t rfl)) ?_
  refine a_nil ?_
  refine a_cond (ev_t rfl) (fun hc => ?_) (fun hc => a_skip ?_)
  · exfalso; simp at hc
  refine a_seq (a_seq (a_region ?_))
  refine a_v rfl (s_builda (cs := u8s (four nn1)) Try.z22 Try.ar22 (.cons ev_c (.cons ev_c (.cons ev_c (.cons ev_c .nil)))) rfl) ?_
  refine a_v rfl (s_build (cs := [.v (.int .u8 0), .v (.int .i8 7)]) Try.z29 Try.pl29 (.cons ev_c (.cons ev_c .nil)) rfl) ?_
  refine a_v rfl (s_build (cs := [.v (.int .u8 0), .v (.int .i8 5)]) Try.z29 Try.pl29 (.cons ev_c (.cons ev_c .nil)) rfl) ?_
  refine a_v rfl (s_build (cs := [.v (.int .u8 0), .v (.int .i8 (-6))]) Try.z29 Try.pl29 (.cons ev_c (.cons ev_c .nil)) rfl) ?_
  refine a_v rfl (s_lit (els := els ls2) Try.sl23 Try.z29 rfl rfl (.cons (ev_t rfl) (.cons (ev_t rfl) (.cons (ev_t rfl) .nil))) rfl rfl rfl) ?_
  refine a_vp rfl (s_call Try.okF6 ev_f (.cons (ev_t rfl) (.cons (ev_t rfl) .nil)) (bk_booked ok_nn1 ok_ls2 _)) fun x V' hx => ?_
  obtain ⟨hx1, hVV⟩ := hx; rw [used2] at hx1; subst hx1; have hVV := hVV.symm; subst hVV
  refine a_v rfl (s_move (ev_t rfl)) ?_
  refine a_v rfl (s_extract (ev_t rfl) rfl) ?_
  refine a_v rfl (s_extract (ev_t rfl) rfl) ?_
  refine a_vp rfl (s_alloc Try.z24) fun x V' hx => ?_
  obtain ⟨b7, nb7, rfl, rfl⟩ := hx
  have eb7b2 : ¬ b7 = b2 := by rintro rfl; simp [View.set, vb2, eb5b2, eb5b2', vb5] at nb7
  have eb7b2' : ¬ b2 = b7 := fun h => eb7b2 h.symm
  have eb7b5 : ¬ b7 = b5 := by rintro rfl; simp [View.set, vb2, eb5b2, eb5b2', vb5, eb7b2, eb7b2'] at nb7
  have eb7b5' : ¬ b5 = b7 := fun h => eb7b5 h.symm
  have vb7 : V b7 = none := by simpa [View.set, vb2, eb5b2, eb5b2', vb5, eb7b2, eb7b2', eb7b5, eb7b5'] using nb7
  refine a_s (s_storew Try.sh24 (ev_t rfl) (ev_t rfl) (by simp [View.set, View.drop, vb2, eb5b2, eb5b2', vb5, eb7b2, eb7b2', eb7b5, eb7b5', vb7] <;> first | exact ⟨rfl, rfl⟩ | exact rfl) rfl rfl (by first | decide | (simp [ints, four]; done) | (simp [ints, four]; omega)) (wrA (f := zf))) ?_
  refine a_v rfl (s_assign (ev_t rfl)) ?_
  refine a_nil ?_
  refine a_seq (a_region ?_)
  refine a_v rfl (s_move (ev_t rfl)) ?_
  refine a_v rfl (s_not (ev_t rfl)) ?_
  refine a_v rfl (s_move (ev_t rfl)) ?_
  refine a_f rfl (f_guard rfl (gd_b rfl (ev_t rfl)) fun h2 => s_load Try.sh24 (ev_t rfl) (by simp [View.set, View.drop, vb2, eb5b2, eb5b2', vb5, eb7b2, eb7b2', eb7b5, eb7b5', vb7] <;> first | exact ⟨rfl, rfl⟩ | exact rfl) rdA) ?_
  refine a_f rfl (f_guard rfl (gd_b rfl (ev_t rfl)) fun h2 => s_builda (cs := ints (four zf)) Try.z24 Try.ar24 .nil rfl) ?_
  refine a_f rfl (f_guard rfl (gd_b rfl (ev_t rfl)) fun h2 => s_neq4 (ev_cond (ev_t rfl) h2) (ev_cond (ev_t rfl) h2)) ?_
  refine a_v rfl (s_pickor (ev_t rfl) (ev_t rfl)) ?_
  refine a_nil ?_
  refine a_cond (ev_t rfl) (fun hc => ?_) (fun hc => a_skip ?_)
  · exfalso; simp at hc
  refine a_seq (a_region ?_)
  refine a_v rfl (s_load Try.sh22 (ev_t rfl) (by simp [View.set, View.drop, vb2, eb5b2, eb5b2', vb5, eb7b2, eb7b2', eb7b5, eb7b5', vb7] <;> first | exact ⟨rfl, rfl⟩ | exact rfl) u8A) ?_
  refine a_v rfl (s_move (ev_t rfl)) ?_
  refine a_vp rfl (s_call Try.okF6 ev_f (.cons (ev_t rfl) (.cons (ev_t rfl) .nil)) (bk_booked hn hl _)) fun x V' hx => ?_
  obtain ⟨hx1, hVV⟩ := hx; subst hx1; have hVV := hVV.symm; subst hVV
  refine a_v rfl (s_move (ev_t rfl)) ?_
  refine a_v rfl (s_extract (ev_t rfl) rfl) ?_
  refine a_v rfl (s_extract (ev_t rfl) rfl) ?_
  refine a_v rfl (s_assign (ev_t rfl)) ?_
  refine a_nil ?_
  refine a_seq (a_region ?_)
  refine a_v rfl (s_move (ev_t rfl)) ?_
  refine a_v rfl (s_assign (ev_t rfl)) ?_
  refine a_nil ?_
  refine a_ret ?_
  refine ⟨[_], V, ⟨_, _, rfl, ev_t rfl, rfl⟩, ?_, rfl, rfl⟩
  repeat refine View.le_set ?_ ?_
  all_goals first | exact View.le_refl _ | assumption
#print axioms bk_top
end Go.Proofs
