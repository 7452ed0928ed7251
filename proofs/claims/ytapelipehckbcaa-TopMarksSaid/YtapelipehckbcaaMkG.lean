/- Cells with marks: back to the top mark. -/
import Derived.Test.YtapelipehckbcaaMkG0
set_option linter.unusedVariables false
set_option linter.unusedSimpArgs false
namespace Go.Proofs
open Go.AV
variable {V V₀ : View} {b : Nat} {n : Nat → Nat} {c base : Ce} {ss : List Ce}
theorem mk_back_none (M : Mem V b n c base [] V₀) : ACalls Try.prog 21 [pt b 0] V (fun x V' => x = .tuple [iv 0, iv 213] ∧ V' = V) := by
  refine a_fn (fn := Try.f21) Try.func21 rfl ?_ rfl
  refine a_seq (a_region ?_)
  refine a_v rfl (s_assign ev_c) ?_
  refine a_v rfl (s_assign ev_c) ?_
  refine a_nil ?_
  refine a_seq (a_region ?_)
  refine a_v rfl (s_move (ev_t rfl)) ?_
  refine a_vp rfl (s_call Try.okM49 ev_f (.cons (ev_t rfl) .nil) (mk_pop_none M)) fun xv Vv hx => ?_
  obtain ⟨rfl, hVV⟩ := hx; have hVV := hVV.symm; subst hVV
  refine a_v rfl (s_move (ev_t rfl)) ?_
  refine a_v rfl (s_extract (ev_t rfl) rfl) ?_
  refine a_v rfl (s_extract (ev_t rfl) rfl) ?_
  refine a_vp rfl (s_alloc Try.z128) fun xv Vv hx => ?_
  obtain ⟨tb, ntb, rfl, rfl⟩ := hx
  have vtb : V tb = none := by simpa [View.set, ] using ntb
  refine a_s (s_store Try.sh128 (ev_t rfl) (ev_t rfl) (by simp [View.set, View.drop, vtb] <;> first | exact ⟨rfl, rfl⟩ | exact rfl) rfl rfl (by first | decide | (simp; done) | (simp; omega))) ?_
  refine a_v rfl (s_assign (ev_t rfl)) ?_
  refine a_nil ?_
  refine a_seq (a_seq (a_region ?_))
  refine a_v rfl (s_move (ev_t rfl)) ?_
  refine a_v rfl (s_cmp (ev_t rfl) ev_c rfl) ?_
  refine a_nil ?_
  refine a_cond (ev_t rfl) (fun hc => ?_) (fun hc => ?_)
  rotate_left
  · exfalso; simp at hc
  refine a_seq (a_region ?_)
  refine a_v rfl (s_move (ev_t rfl)) ?_
  refine a_v rfl (s_assign ev_c) ?_
  refine a_v rfl (s_assign (ev_t rfl)) ?_
  refine a_nil ?_
  refine a_ret ?_
  refine ⟨[_, _], V, ⟨_, _, rfl, ev_t rfl, _, _, rfl, ev_t rfl, rfl⟩, ?_, rfl, rfl⟩
  rw [View.set_set]
  exact View.le_self_set ntb
theorem mk_back {s : Ce} {t : List Ce} {nn : Nat → Nat} (M : Mem V b nn c c (s :: t) V₀) (hss : t.length < 64) (hn6 : ∀ o, o < 3 → nn o ≤ 6) (hc0 : Zr nn c) (hs0 : Zr nn s) : ACalls Try.prog 21 [pt b 0] V (fun x V' => x = .tuple [iv (dif s c).length, iv 0] ∧ Mem V' b nn s s t V₀) := by
  refine a_fn (fn := Try.f21) Try.func21 rfl ?_ rfl
  refine a_seq (a_region ?_)
  refine a_v rfl (s_assign ev_c) ?_
  refine a_v rfl (s_assign ev_c) ?_
  refine a_nil ?_
  refine a_seq (a_region ?_)
  refine a_v rfl (s_move (ev_t rfl)) ?_
  refine a_vp rfl (s_call Try.okM49 ev_f (.cons (ev_t rfl) .nil) (mk_pop M hss)) fun xv Vv hx => ?_
  obtain ⟨bt, nbt, rfl, M1⟩ := hx; obtain ⟨W, rfl⟩ : ∃ W, W = Vv := ⟨_, rfl⟩
  refine a_v rfl (s_move (ev_t rfl)) ?_
  refine a_v rfl (s_extract (ev_t rfl) rfl) ?_
  refine a_v rfl (s_extract (ev_t rfl) rfl) ?_
  refine a_vp rfl (s_alloc Try.z128) fun xv Vv hx => ?_
  obtain ⟨tb, ntb, rfl, rfl⟩ := hx
  have vtb : W tb = none := by simpa [View.set, ] using ntb
  refine a_s (s_store Try.sh128 (ev_t rfl) (ev_t rfl) (by simp [View.set, View.drop, vtb] <;> first | exact ⟨rfl, rfl⟩ | exact rfl) rfl rfl (by first | decide | (simp; done) | (simp; omega))) ?_
  refine a_v rfl (s_assign (ev_t rfl)) ?_
  refine a_nil ?_
  refine a_gen fun W1 hW1 => ?_
  have M2 : Mem W1 b nn c s t ((V₀.set bt (.mp (dif s c))).set tb (.row [mpv bt])) := by
    have h := M1.new (.row [mpv bt]) ntb
    rw [hW1, View.set_set]; exact h
  have hne : bt ≠ tb := by rintro rfl; have := M1.le _ _ (View.set_same _ _ _); rw [ntb] at this; cases this
  have n0tb : V₀ tb = none := by have := View.le_none M1.le ntb; rwa [View.set_other _ _ hne.symm] at this
  clear hW1 ntb M1
  have htb : W1 tb = some (.row [mpv bt]) := M2.le _ _ (View.set_same _ _ _)
  rw [View.set_comm _ _ _ hne] at M2
  have hbt : W1 bt = some (.mp (dif s c)) := M2.le _ _ (View.set_same _ _ _)
  have nbt' : (V₀.set tb (.row [mpv bt])) bt = none := by rw [View.set_other _ _ hne]; exact nbt
  refine a_seq (a_seq (a_region ?_))
  refine a_v rfl (s_move (ev_t rfl)) ?_
  refine a_v rfl (s_cmp (ev_t rfl) ev_c rfl) ?_
  refine a_nil ?_
  refine a_cond (ev_t rfl) (fun hc => ?_) (fun hc => a_skip ?_)
  · exfalso; simp at hc
  refine a_openmap hbt (dif_vals _ _) fun es clock hE => ?_
  have M3 : Mem (W1.set bt (.raw (.map es clock))) b nn c s t ((V₀.set tb (.row [mpv bt])).set bt (.raw (.map es clock))) := M2.rest
  refine a_gen fun W2 hW2 => ?_
  rw [← hW2] at M3
  have hraw : W2 bt = some (.raw (.map es clock)) := M3.le _ _ (View.set_same _ _ _)
  have htb2 : W2 tb = some (.row [mpv bt]) := by rw [hW2, View.set_other _ _ hne.symm]; exact htb
  refine a_seq (a_seq (a_region ?_))
  refine a_v rfl (s_fieldAddr Try.f128_0 rfl (ev_t rfl)) ?_
  refine a_v rfl (s_load Try.sh126 (ev_t rfl) htb2 rfl) ?_
  refine a_vp rfl (s_range Try.um126 hraw (ev_t rfl)) fun xv Vv hx => ?_
  obtain ⟨it, nit, rfl, rfl⟩ := hx
  refine a_nil ?_
  have M4 := M3.new (.raw (.mapIter (some bt) clock #[] clock)) nit
  have n0it : (V₀.set tb (.row [mpv bt])) it = none := by
    have h := View.le_none M3.le nit
    rwa [View.set_other _ _ (View.ne_of hraw nit).symm] at h
  have hneit : it ≠ bt := (View.ne_of hraw nit).symm
  refine a_block ?_
  refine a_loop (fun n st V' => ∃ (lt : List (Nat × AVal)) (seen : Array Nat) (g : Ce), (leftOf es seen).size = n ∧ st = ⟨lt, 40⟩ ∧ SubT [(0, pt b 0), (4, pt tb 0), (18, pt it 0)] lt ∧ Prog es seen c s g ∧ Mem V' b nn g s t (((V₀.set tb (.row [mpv bt])).set bt (.raw (.map es clock))).set it (.raw (.mapIter (some bt) clock seen clock)))) ?_ (leftOf es #[]).size _ _ ⟨_, #[], c, rfl, rfl, ⟨rfl, rfl, rfl, trivial⟩, Prog.start, M4⟩
  rintro m st W3 ⟨lt, seen, g, rfl, rfl, hs, hP, M5⟩
  refine a_forget hs ?_
  have hraw3 : W3 bt = some (.raw (.map es clock)) := M5.le _ _ (by rw [View.set_other _ _ hneit.symm]; exact View.set_same _ _ _)
  have hit3 : W3 it = some (.raw (.mapIter (some bt) clock seen clock)) := M5.le _ _ (View.set_same _ _ _)
  have htb3 : W3 tb = some (.row [mpv bt]) := M5.le _ _ (by rw [View.set_other _ _ (by rintro rfl; rw [View.set_same] at n0it; cases n0it), View.set_other _ _ hne.symm]; exact View.set_same _ _ _)
  refine a_seq (a_region ?_)
  refine a_vp rfl (s_next hraw3 hit3 hE.lt (ev_t rfl)) fun xv Vv hx => ?_
  obtain ⟨gb, vs, rfl, hx2⟩ := next_cases hx; clear hx
  refine a_v rfl (s_extract (ev_t rfl) rfl) ?_
  refine a_nil ?_
  refine a_seq (a_cond (ev_t rfl) (fun hc => a_skip ?_) (fun hc => a_exit ?_))
  · obtain ⟨e, he, rfl⟩ : ∃ e ∈ (leftOf es seen).toList, Vv = W3.set it (.raw (.mapIter (some bt) clock (seen.push e.born) clock)) := by
      rcases hx2 with ⟨h, _⟩ | ⟨_, h⟩
      · rw [h] at hc; cases hc
      · exact h
    obtain ⟨hem, _⟩ := mem_left he
    obtain ⟨o, i, ho, hi, hsc, hek, hev⟩ := hE.ent hem
    have hin : i < nn o := by
      refine Classical.byContradiction fun h => ?_
      exact hsc (by rw [hs0 o i ho (by omega), hc0 o i ho (by omega)])
    have M6 : Mem (W3.set it (.raw (.mapIter (some bt) clock (seen.push e.born) clock))) b nn g s t (((V₀.set tb (.row [mpv bt])).set bt (.raw (.map es clock))).set it (.raw (.mapIter (some bt) clock (seen.push e.born) clock))) := M5.rest
    refine a_gen fun W4 hW4 => ?_
    rw [← hW4] at M6
    have hraw4 : W4 bt = some (.raw (.map es clock)) := M6.le _ _ (by rw [View.set_other _ _ hneit.symm]; exact View.set_same _ _ _)
    have hit4 : W4 it = some (.raw (.mapIter (some bt) clock (seen.push e.born) clock)) := M6.le _ _ (View.set_same _ _ _)
    refine a_block ?_
    refine a_seq (a_region ?_)
    refine a_v rfl (s_entry (us := kv o i) hraw4 hit4 hE.bn hem hek hev (ev_t rfl)) ?_
    refine a_v rfl (s_extract (ev_t rfl) rfl) ?_
    refine a_v rfl (s_extract (ev_t rfl) rfl) ?_
    refine a_vp rfl (s_alloc Try.z124) fun xv Vv hx => ?_
    obtain ⟨kb, nkb, rfl, rfl⟩ := hx
    have vkb : W4 kb = none := by simpa [View.set, ] using nkb
    refine a_s (s_store Try.sh124 (ev_t rfl) (ev_t rfl) (by simp [View.set, View.drop, vkb] <;> first | exact ⟨rfl, rfl⟩ | exact rfl) rfl rfl (by first | decide | (simp; done) | (simp; omega))) ?_
    refine a_v rfl (s_assign (ev_t rfl)) ?_
    refine a_nil ?_
    have M7 : Mem (W4.set kb (.row [iv ((o + 1 : Nat) : Int), iv (i : Int)])) b nn g s t (((V₀.set tb (.row [mpv bt])).set bt (.raw (.map es clock))).set it (.raw (.mapIter (some bt) clock (seen.push e.born) clock))) := M6.more (View.le_self_set nkb)
    refine a_gen fun W5 hW5 => ?_
    have hW5' : W5 = W4.set kb (.row [iv ((o + 1 : Nat) : Int), iv (i : Int)]) := by rw [hW5]; exact View.set_set _ _ _ _
    rw [← hW5'] at M7
    have hkb : W5 kb = some (.row [iv ((o + 1 : Nat) : Int), iv (i : Int)]) := by rw [hW5']; exact View.set_same _ _ _
    obtain ⟨bc, cap, X, xm, O⟩ := M7.open
    obtain ⟨r, cp, hX, hr, hrb, hput⟩ := O.put o i ho hin
    refine a_draw [false, false, false, false, false, false, false, false, false, false, false, false, false, true] (_) Try.mixed rfl (by kernel_rfl) (View.le_refl _) ?_
    refine d_v (fun V' hU => f_plain rfl (s_move (ev_o rfl rfl))) ?_
    refine d_v (fun V' hU => f_plain rfl (s_nilCheck (ev_o rfl rfl))) ?_
    refine d_v (fun V' hU => f_plain rfl (s_fieldAddr Try.f122_1 rfl (ev_o rfl rfl))) ?_
    refine d_v (fun V' hU => f_plain rfl (s_load Try.sh119 (ev_o rfl rfl) (hU _ _ O.row) rfl)) ?_
    refine d_v (fun V' hU => f_plain rfl (s_fieldAddr Try.f124_0 rfl (ev_o rfl rfl))) ?_
    refine d_v (fun V' hU => f_plain rfl (s_load Try.sh3 (ev_o rfl rfl) (hU _ _ hkb) rfl)) ?_
    refine d_v (fun V' hU => f_plain rfl (s_sub (ev_o rfl rfl) ev_c (by omega) (by omega))) ?_
    refine d_v (fun V' hU => f_plain rfl (s_idxs Try.sl119 (ev_o rfl rfl) (ev_o rfl rfl) (by omega) (by omega))) ?_
    refine d_v (fun V' hU => f_plain rfl (s_load Try.sh84 (ev_o rfl rfl) (hU _ _ O.cells) ((cells3 ho _ (by omega)).trans (congrArg some hX)))) ?_
    refine d_v (fun V' hU => f_plain rfl (s_fieldAddr Try.f124_1 rfl (ev_o rfl rfl))) ?_
    refine d_v (fun V' hU => f_plain rfl (s_load Try.sh3 (ev_o rfl rfl) (hU _ _ hkb) rfl)) ?_
    refine d_v (fun V' hU => f_plain rfl (s_move (ev_o rfl rfl))) ?_
    refine d_v (fun V' hU => f_plain rfl (s_idxs Try.sl84 (ev_o rfl rfl) (ev_o rfl rfl) (by omega) (by omega))) ?_
    first | refine d_b (s_storew Try.sh2 (ev_o rfl rfl) (ev_o rfl rfl) hr rfl rfl (by simp [rowV_len]; omega) (rowV_set' hin)) rfl _ (View.le_refl _) ?_ | refine d_e (s_storew Try.sh2 (ev_o rfl rfl) (ev_o rfl rfl) hr rfl rfl (by simp [rowV_len]; omega) (rowV_set' hin)) (by first | exact View.le_refl _ | assumption) ?_
    refine d_nil ?_
    repeat first | refine thenA_x ?_ | refine blockA_hit ?_ | refine blockA_x (by decide) ?_
    refine ⟨_, left_shrinks es seen e he, _, seen.push e.born, g.upd o i (s o i), rfl, rfl, ⟨rfl, rfl, rfl, trivial⟩, hP.step hE he hek, hput _⟩
  repeat first | refine thenA_x ?_ | refine blockA_hit ?_ | refine blockA_x (by decide) ?_
  obtain ⟨h0, rfl⟩ : (leftOf es seen).size = 0 ∧ Vv = W3 := by
    rcases hx2 with ⟨_, h⟩ | ⟨h, _⟩
    · exact h
    · rw [h] at hc; cases hc
  have hag := hP.done h0 (fun o i ho hi hh => hE.has ho hi hh)
  have M6 := ((M5.agree (c' := s) fun o i ho hi => hag o i ho (by have := hn6 o ho; omega)).less (V₀ := (V₀.set tb (.row [mpv bt])).set bt (.raw (.map es clock))) (View.le_self_set (by rw [View.set_other _ _ hneit]; exact n0it))).rest (o' := .mp (dif s c))
  refine a_closemap hraw3 hE ?_
  refine a_gen fun W4 hW4 => ?_
  rw [← hW4] at M6
  have hbt4 : W4 bt = some (.mp (dif s c)) := by rw [hW4]; exact View.set_same _ _ _
  have htb4 : W4 tb = some (.row [mpv bt]) := by rw [hW4, View.set_other _ _ hne.symm]; exact htb3
  refine a_seq (a_region ?_)
  refine a_v rfl (s_fieldAddr Try.f128_0 rfl (ev_t rfl)) ?_
  refine a_v rfl (s_load Try.sh126 (ev_t rfl) htb4 rfl) ?_
  refine a_v rfl (s_maplen Try.um126 hbt4 (ev_t rfl)) ?_
  refine a_v rfl (s_assign (ev_t rfl)) ?_
  refine a_v rfl (s_assign ev_c) ?_
  refine a_nil ?_
  refine a_ret ?_
  exact ⟨[_, _], _, ⟨_, _, rfl, ev_t rfl, _, _, rfl, ev_t rfl, rfl⟩, View.le_refl _, rfl, (M6.less (View.le_self_set nbt')).less (View.le_self_set n0tb)⟩
#print axioms mk_back_none
#print axioms mk_back
end Go.Proofs
