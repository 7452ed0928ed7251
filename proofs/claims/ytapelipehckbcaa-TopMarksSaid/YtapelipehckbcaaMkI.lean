/- Cells with marks: plans that are right; new memories; copies of rows. -/
import Derived.Test.YtapelipehckbcaaMkI0
set_option linter.unusedVariables false
set_option linter.unusedSimpArgs false
set_option linter.unnecessarySimpa false
namespace Go.AV
theorem zeros0 (n : Nat) : (zeros (.int .i64 0) n).map AVal.v = List.replicate n (iv 0) := by
  have h1 : ∀ x ∈ (zeros (.int .i64 0) n).map AVal.v, x = iv 0 := by
    intro x hx
    simp [zeros, Value.cells] at hx
    obtain ⟨w, hw, rfl⟩ := hx
    simp [Nat.mod_one]
  exact List.eq_replicate_iff.2 ⟨by simp [zeros, Value.cells], h1⟩
theorem newA {V V' : View} {x : AVal} {n o : Nat} (h : NewSlice V n ((zeros (.int .i64 0) n).map .v) (some (zeros (.int .i64 0) n).length) x V') : Acc V' x 1 n (rowV Ce0 o n) V := by
  rw [zeros0, ← rowV0 o n] at h
  refine accNew h (by simp [rowV_len]) ?_
  simp [zeros, Value.cells]
end Go.AV
namespace Go.Proofs
open Go.AV
variable {V V₀ : View} {b : Nat} {n : Nat → Nat} {c base : Ce} {ss : List Ce}
theorem mk_right (hn : ∀ o, o < 3 → n o ≤ 6) (V : View) : ACalls Try.prog 47 [.tree 1 (nT n)] V (One (bv true) V) := by
  refine a_fn (fn := Try.f47) Try.func47 rfl ?_ rfl
  refine a_seq (a_region ?_)
  refine a_v rfl (s_assign ev_c) ?_
  refine a_nil ?_
  refine a_seq (a_region ?_)
  refine a_v rfl (s_assign ev_c) ?_
  refine a_nil ?_
  refine a_seq (a_seq (a_region ?_))
  refine a_v rfl (s_move (ev_t rfl)) ?_
  refine a_v rfl (s_lent Try.us65 (ev_t rfl)) ?_
  refine a_v rfl (s_move ev_c) ?_
  refine a_nil ?_
  refine a_block ?_
  refine a_loop (fun m st V' => ∃ (i : Nat) (lt : List (Nat × AVal)) (left : Int), 3 - i = m ∧ i ≤ 3 ∧ 1024 - 6 * (i : Int) ≤ left ∧ left ≤ 1024 ∧ st = ⟨lt, 26⟩ ∧ SubT [(0, .tree 1 (nT n)), (3, iv left), (6, .tree 1 (nT n)), (7, iv 3), (8, iv i)] lt ∧ V = V') ?_ 3 _ _ ⟨0, _, 1024, rfl, by omega, by omega, by omega, rfl, ⟨rfl, rfl, rfl, rfl, rfl, trivial⟩, rfl⟩
  rintro m st W ⟨i, lt, left, rfl, hi3, hl1, hl2, rfl, hs, rfl⟩
  refine a_forget hs ?_
  refine a_seq (a_region ?_)
  refine a_v rfl (s_cmp (ev_t rfl) (ev_t rfl) rfl) ?_
  refine a_nil ?_
  refine a_seq (a_cond (ev_t rfl) (fun hc => a_skip ?_) (fun hc => a_exit ?_))
  · have hi' : i < 3 := by simp at hc; omega
    have hni := hn i hi'
    refine a_seq (a_block ?_)
    refine a_seq (a_region ?_)
    refine a_v rfl (s_idxt Try.sl65 (ev_t rfl) (ev_t rfl) (by omega) (nT_get hi')) ?_
    refine a_v rfl (s_loadr Try.sh3 rfl (ev_t rfl) (ref1 rfl)) ?_
    refine a_v rfl (s_assign (ev_t rfl)) ?_
    refine a_nil ?_
    refine a_seq (a_seq (a_region ?_))
    refine a_v rfl (s_move (ev_t rfl)) ?_
    refine a_v rfl (s_cmp (ev_t rfl) ev_c rfl) ?_
    refine a_v rfl (s_move (ev_t rfl)) ?_
    refine a_f rfl (f_guard rfl (gd_b rfl (ev_t rfl)) fun h2 => s_move (ev_t rfl)) ?_
    refine a_f rfl (f_guard rfl (gd_b rfl (ev_t rfl)) fun h2 => s_move (ev_t rfl)) ?_
    refine a_f rfl (f_guard rfl (gd_b rfl (ev_t rfl)) fun h2 => s_cmp (ev_cond (ev_t rfl) h2) (ev_cond (ev_t rfl) h2) rfl) ?_
    refine a_v rfl (s_pickor (ev_t rfl) (ev_t rfl)) ?_
    refine a_nil ?_
    refine a_cond (ev_t rfl) (fun hc2 => ?_) (fun hc2 => a_skip ?_)
    · exfalso; simp at hc2; omega
    repeat first | refine thenA_x ?_ | refine blockA_hit ?_ | refine blockA_x (by decide) ?_
    refine a_region ?_
    refine a_v rfl (s_move (ev_t rfl)) ?_
    refine a_v rfl (s_move (ev_t rfl)) ?_
    refine a_v rfl (s_sub (ev_t rfl) (ev_t rfl) (by omega) (by omega)) ?_
    refine a_v rfl (s_assign (ev_t rfl)) ?_
    refine a_nil ?_
    repeat first | refine thenA_x ?_ | refine blockA_hit ?_ | refine blockA_x (by decide) ?_
    refine a_region ?_
    refine a_v rfl (s_add (ev_t rfl) ev_c (by omega) (by omega)) ?_
    refine a_v rfl (s_move (ev_t rfl)) ?_
    refine a_nil ?_
    refine ⟨3 - (i + 1), by omega, i + 1, _, _, rfl, by omega, ?_, ?_, rfl, ⟨rfl, rfl, rfl, rfl, rfl, trivial⟩, rfl⟩
    · push_cast; omega
    · omega
  repeat first | refine thenA_x ?_ | refine blockA_hit ?_ | refine blockA_x (by decide) ?_
  refine a_seq (a_region ?_)
  refine a_v rfl (s_move (ev_t rfl)) ?_
  refine a_v rfl (s_lent Try.us65 (ev_t rfl)) ?_
  refine a_v rfl (s_cmp (ev_t rfl) ev_c rfl) ?_
  refine a_v rfl (s_assign (ev_t rfl)) ?_
  refine a_nil ?_
  refine a_ret ?_
  exact ⟨[_], _, ⟨_, _, rfl, ev_t rfl, rfl⟩, View.le_refl _, by simp [nT, oneOf], rfl⟩
theorem mk_new (hn : ∀ o, o < 3 → n o ≤ 6) (V : View) : ACalls Try.prog 17 [.tree 1 (nT n)] V (fun x V' => ∃ b, x = .tuple [pt b 0, iv 0] ∧ Mem V' b n Ce0 Ce0 [] V) := by
  refine a_fn (fn := Try.f17) Try.func17 rfl ?_ rfl
  refine a_seq (a_region ?_)
  refine a_v rfl (s_assign ev_c) ?_
  refine a_v rfl (s_assign ev_c) ?_
  refine a_nil ?_
  refine a_seq (a_seq (a_region ?_))
  refine a_v rfl (s_move (ev_t rfl)) ?_
  refine a_v rfl (s_call Try.okM47 ev_f (.cons (ev_t rfl) .nil) (mk_right hn _)) ?_
  refine a_v rfl (s_not (ev_t rfl)) ?_
  refine a_nil ?_
  refine a_cond (ev_t rfl) (fun hc => ?_) (fun hc => a_skip ?_)
  · exfalso; simp at hc
  refine a_seq (a_region ?_)
  refine a_v rfl (s_build Try.z122 Try.pl122 (.cons ev_c .nil) rfl) ?_
  refine a_vp rfl (s_box (ev_t rfl) rfl) fun xv Vv hx => ?_
  obtain ⟨b, nb, rfl, rfl⟩ := hx
  have vb : V b = none := by simpa [View.set, ] using nb
  refine a_v rfl (s_assign (ev_t rfl)) ?_
  refine a_nil ?_
  have hB0 : Build (V.set b (.row [bv true, nilS, nilS])) b n Ce0 0 V := Build.start nb
  refine a_seq (a_seq (a_region ?_))
  refine a_v rfl (s_move (ev_t rfl)) ?_
  refine a_v rfl (s_lent Try.us65 (ev_t rfl)) ?_
  refine a_v rfl (s_move ev_c) ?_
  refine a_nil ?_
  refine a_block ?_
  refine a_loop (fun m st V' => ∃ (i : Nat) (lt : List (Nat × AVal)), 3 - i = m ∧ i ≤ 3 ∧ st = ⟨lt, 31⟩ ∧ SubT [(4, pt b 0), (12, .tree 1 (nT n)), (13, iv 3), (14, iv i)] lt ∧ Build V' b n Ce0 i V) ?_ 3 _ _ ⟨0, _, rfl, by omega, rfl, ⟨rfl, rfl, rfl, rfl, trivial⟩, hB0⟩
  rintro m st W ⟨i, lt, rfl, hi3, rfl, hs, hB⟩
  refine a_forget hs ?_
  refine a_seq (a_region ?_)
  refine a_v rfl (s_cmp (ev_t rfl) (ev_t rfl) rfl) ?_
  refine a_nil ?_
  refine a_seq (a_cond (ev_t rfl) (fun hc => a_skip ?_) (fun hc => a_exit ?_))
  · have hi' : i < 3 := by simp at hc; omega
    have hni := hn i hi'
    obtain ⟨xc0, hb0⟩ := hB.row
    refine a_seq (a_block ?_)
    refine a_seq (a_region ?_)
    refine a_v rfl (s_idxt Try.sl65 (ev_t rfl) (ev_t rfl) (by omega) (nT_get hi')) ?_
    refine a_v rfl (s_loadr Try.sh3 rfl (ev_t rfl) (ref1 rfl)) ?_
    refine a_v rfl (s_assign (ev_t rfl)) ?_
    refine a_nil ?_
    refine a_draw [false, false, false, false, false, false, true, false, true, false, false, true] (View.set (fun _ => none) b (.row [bv true, xc0, nilS])) Try.mixed rfl (by kernel_rfl) (View.one_le hb0) ?_
    refine d_v (fun V' hU => f_plain rfl (s_move (ev_o rfl rfl))) ?_
    refine d_v (fun V' hU => f_plain rfl (s_move (ev_o rfl rfl))) ?_
    refine d_v (fun V' hU => f_plain rfl (s_nilCheck (ev_o rfl rfl))) ?_
    refine d_v (fun V' hU => f_plain rfl (s_fieldAddr Try.f122_1 rfl (ev_o rfl rfl))) ?_
    refine d_v (fun V' hU => f_plain rfl (s_load Try.sh119 (ev_o rfl rfl) (hU _ _ (View.set_same _ _ _)) rfl)) ?_
    refine d_v (fun V' hU => f_plain rfl (s_move (ev_o rfl rfl))) ?_
    refine d_vp (s_make Try.sl84 Try.z2 rfl Try.by2 (ev_o rfl rfl) (ev_o rfl rfl) (by omega) (by omega)) fun xv Vv hx => ?_
    have hx1 := newA (o := i) hx
    refine ⟨View.one_le (accLe hx1 _ _ hb0), ?_⟩
    obtain ⟨xc, cs, V₁, hb1, hb2, hb3, hA, hF⟩ := hB.step hx1
    obtain ⟨ad, cp, rfl⟩ := rowLen (accRow hx1)
    obtain rfl : xc0 = xc := by have := hb0.symm.trans hb1; simpa using this
    refine d_v (fun V' hU => f_plain rfl (s_litx Try.sl119 Try.z84 rfl rfl (.cons (ev_o rfl rfl) .nil) rfl rfl rfl)) ?_
    refine d_vp (s_acc Try.sl119 Try.src119 Try.z84 rfl Try.by84 (ev_o rfl rfl) hA (src_one (ev_o rfl rfl) rfl rfl) rfl (by omega) (by omega)) fun xv Vv hx => ?_
    have A26 := hx; refine ⟨View.one_le (accLe A26 _ _ hb3), ?_⟩
    obtain ⟨u26, rfl, hu26⟩ := accVal A26
    refine d_v (fun V' hU => f_plain rfl (s_nilCheck (ev_o rfl rfl))) ?_
    refine d_v (fun V' hU => f_plain rfl (s_fieldAddr Try.f122_1 rfl (ev_o rfl rfl))) ?_
    first | refine d_b (s_storew Try.sh119 (ev_o rfl rfl) (ev_o rfl rfl) (accLe A26 _ _ hb3) hu26 rfl (by first | decide | (simp; done) | (simp; omega)) rfl) rfl _ (View.le_refl _) ?_ | refine d_e (s_storew Try.sh119 (ev_o rfl rfl) (ev_o rfl rfl) (accLe A26 _ _ hb3) hu26 rfl (by first | decide | (simp; done) | (simp; omega)) rfl) (View.le_refl _) ?_
    refine d_nil ?_
    have hB2 := hF _ _ A26
    refine a_region ?_
    refine a_v rfl (s_add (ev_t rfl) ev_c (by omega) (by omega)) ?_
    refine a_v rfl (s_move (ev_t rfl)) ?_
    refine a_nil ?_
    refine ⟨3 - (i + 1), by omega, i + 1, _, rfl, by omega, rfl, ⟨rfl, rfl, rfl, rfl, trivial⟩, hB2⟩
  repeat first | refine thenA_x ?_ | refine blockA_hit ?_ | refine blockA_x (by decide) ?_
  have hi3' : i = 3 := by simp at hc; omega
  subst hi3'
  refine a_seq (a_region ?_)
  refine a_v rfl (s_move (ev_t rfl)) ?_
  refine a_v rfl (s_assign (ev_t rfl)) ?_
  refine a_v rfl (s_assign ev_c) ?_
  refine a_nil ?_
  refine a_ret ?_
  exact ⟨[_, _], _, ⟨_, _, rfl, ev_t rfl, _, _, rfl, ev_t rfl, rfl⟩, View.le_refl _, b, rfl, hB.done⟩
#print axioms mk_right
#print axioms mk_new
end Go.Proofs
