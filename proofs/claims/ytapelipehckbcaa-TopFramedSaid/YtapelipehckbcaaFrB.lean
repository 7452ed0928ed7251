/- Frames and records: the walk through numbers' forms. -/
import Derived.Test.YtapelipehckbcaaFrT
set_option linter.unusedVariables false
set_option linter.unusedSimpArgs false
namespace Go.Proofs
open Go.AV
theorem fr_form {x : Nat} (hx : x < 18446744073709551616) (V : View) : ACalls Try.prog 9 [uv x] V fun r V' => Acc V' r 1 (form x).length (byT (form x)) V := by
  refine a_fn (fn := Try.f9) Try.func9 rfl ?_ rfl
  refine a_seq (a_region ?_)
  refine a_v rfl (s_assign ev_c) ?_
  refine a_nil ?_
  refine a_seq (a_seq (a_region ?_))
  refine a_v rfl (s_move (ev_t rfl)) ?_
  refine a_v rfl (s_cmp (ev_t rfl) ev_c rfl) ?_
  refine a_nil ?_
  refine a_cond (ev_t rfl) (fun hc => ?_) (fun hc => a_skip ?_)
  · have hs : x ≤ 246 := by simp at hc; omega
    refine a_seq (a_region ?_)
    refine a_v rfl (s_move (ev_t rfl)) ?_
    refine a_v rfl (s_convw ⟨_, Try.ui45⟩ Try.ui5 (ev_t rfl) (u8w _)) ?_
    refine a_vp rfl (s_lito (cs := [.v (.int .u8 _)]) Try.sl39 Try.z5 rfl rfl (.cons (ev_t rfl) .nil) rfl) fun xv Vv hx => ?_
    have A8 := accNew (sz := 1) hx rfl rfl
    refine a_v rfl (s_assign (ev_t rfl)) ?_
    refine a_nil ?_
    refine a_ret ?_
    refine ⟨[_], _, ⟨_, _, rfl, ev_t rfl, rfl⟩, View.le_refl _, ?_⟩
    rw [form_small hs]; exact A8
  have hs : 246 < x := by simp at hc; omega
  refine a_seq (a_region ?_)
  refine a_v rfl (s_assign ev_c) ?_
  refine a_nil ?_
  refine a_seq (a_block ?_)
  refine a_loop (fun n st V' => ∃ (y k : Nat) (l : List (Nat × AVal)) (b : AVal) (c : List UInt8) (V₁ : View), y = n ∧ y < 18446744073709551616 ∧ y < 256 ^ k ∧ k + c.length ≤ 8 ∧ st = ⟨l, 25⟩ ∧ SubT [(0, uv y), (3, b)] l ∧ V.le V₁ ∧ Acc V' b 1 c.length (byT c) V₁ ∧ digs x = digs y ++ c) ?_ x _ _ ⟨x, 8, _, _, [], V, rfl, hx, by simpa using hx, by simp, rfl, ⟨rfl, rfl, trivial⟩, View.le_refl _, accNil, by simp⟩
  rintro n st W ⟨y, k, l, b, c, V₁, rfl, hy, hk, hc8, rfl, hs', hV, A3, hd⟩
  refine a_forget hs' ?_
  refine a_seq (a_seq (a_region ?_))
  refine a_v rfl (s_move (ev_t rfl)) ?_
  refine a_v rfl (s_cmp (ev_t rfl) ev_c rfl) ?_
  refine a_nil ?_
  refine a_cond (ev_t rfl) (fun hc => a_skip ?_) (fun hc => a_exit ?_)
  · have hy0 : 0 < y := by simp at hc; omega
    have hk0 : k ≠ 0 := by rintro rfl; simp at hk; omega
    obtain ⟨k, rfl⟩ := Nat.exists_eq_succ_of_ne_zero hk0
    refine a_seq (a_block ?_)
    refine a_region ?_
    refine a_v rfl (s_move (ev_t rfl)) ?_
    refine a_v rfl (s_convw ⟨_, Try.ui45⟩ Try.ui5 (ev_t rfl) (u8w _)) ?_
    refine a_vp rfl (s_lito (cs := [.v (.int .u8 _)]) Try.sl39 Try.z5 rfl rfl (.cons (ev_t rfl) .nil) rfl) fun xv Vv hx => ?_
    have A15 := accNew (sz := 1) hx rfl rfl
    refine a_v rfl (s_move (ev_t rfl)) ?_
    refine a_vp rfl (s_acc Try.sl39 Try.src39 Try.z5 rfl Try.by5 (ev_t rfl) A15 (src_of (ev_t rfl) (rowMono (accRow A3) (accLe A15))) (byT_one _) (by omega) (by omega)) fun xv Vv hx => ?_
    have A17 := hx
    refine a_v rfl (s_assign (ev_t rfl)) ?_
    refine a_nil ?_
    refine a_region ?_
    refine a_v rfl (s_move (ev_t rfl)) ?_
    refine a_v rfl (s_shrw (ev_t rfl) ev_c (by decide) (shr8 _)) ?_
    refine a_v rfl (s_assign (ev_t rfl)) ?_
    refine a_nil ?_
    refine ⟨y / 256, by omega, y / 256, k, _, _, UInt8.ofNat y :: c, W, rfl, by omega, ?_, by simp; omega, rfl, ⟨rfl, rfl, trivial⟩, View.le_trans hV (accLe A3), ?_, by rw [hd, digs_pos hy0]; simp⟩
    · rw [Nat.div_lt_iff_lt_mul (by decide)]; rwa [Nat.pow_succ] at hk
    · simpa [byT, Nat.add_comm] using A17
  repeat first | refine thenA_x ?_ | refine blockA_hit ?_ | refine blockA_x (by decide) ?_
  have hy0 : y = 0 := by simp at hc; omega
  subst hy0
  refine a_seq (a_region ?_)
  refine a_v rfl (s_move (ev_t rfl)) ?_
  refine a_v rfl (s_lenA Try.us39 (ev_t rfl) (accRow A3)) ?_
  refine a_v rfl (s_add ev_c (ev_t rfl) (by omega) (by omega)) ?_
  refine a_v rfl (s_convw ⟨_, Try.ui3⟩ Try.ui5 (ev_t rfl) (u8w (246 + c.length))) ?_
  refine a_vp rfl (s_lito (cs := [.v (.int .u8 _)]) Try.sl39 Try.z5 rfl rfl (.cons (ev_t rfl) .nil) rfl) fun xv Vv hx => ?_
  have A22 := accNew (sz := 1) hx rfl rfl
  refine a_v rfl (s_move (ev_t rfl)) ?_
  refine a_vp rfl (s_acc Try.sl39 Try.src39 Try.z5 rfl Try.by5 (ev_t rfl) A22 (src_of (ev_t rfl) (rowMono (accRow A3) (accLe A22))) (byT_one _) (by omega) (by omega)) fun xv Vv hx => ?_
  have A24 := hx
  refine a_v rfl (s_assign (ev_t rfl)) ?_
  refine a_nil ?_
  obtain ⟨V2, h2, A2⟩ := accShrink A24 (View.le_trans hV (accLe A3))
  refine a_ret ?_
  refine ⟨[_], V2, ⟨_, _, rfl, ev_t rfl, rfl⟩, h2, ?_⟩
  rw [form_big hs, hd, digs_zero]
  simpa [byT, oneOf, Nat.add_comm] using A2
#print axioms fr_form
theorem fr_formT {x : Nat} (hx : x < 18446744073709551616) (V : View) : ACalls Try.prog 9 [uv x] V (One (.tree 1 (byT (form x))) V) :=
  (fr_form hx V).freeze (byT_els _) (byT_len _) (byT_good _)
theorem fr_size {x : Nat} (hx : x < 18446744073709551616) (V : View) : ACalls Try.prog 35 [uv x] V (One (iv (form x).length) V) := by
  refine a_fn (fn := Try.f35) Try.func35 rfl ?_ rfl
  refine a_seq (a_region ?_)
  refine a_v rfl (s_assign ev_c) ?_
  refine a_nil ?_
  refine a_seq (a_seq (a_region ?_))
  refine a_v rfl (s_move (ev_t rfl)) ?_
  refine a_v rfl (s_cmp (ev_t rfl) ev_c rfl) ?_
  refine a_nil ?_
  refine a_cond (ev_t rfl) (fun hc => ?_) (fun hc => a_skip ?_)
  · have hs : x ≤ 246 := by simp at hc; omega
    refine a_seq (a_region ?_)
    refine a_v rfl (s_assign ev_c) ?_
    refine a_nil ?_
    refine a_ret ?_
    exact ⟨[_], _, ⟨_, _, rfl, ev_t rfl, rfl⟩, View.le_refl _, by rw [form_small hs]; rfl, rfl⟩
  have hs : 246 < x := by simp at hc; omega
  refine a_seq (a_region ?_)
  refine a_v rfl (s_assign ev_c) ?_
  refine a_nil ?_
  refine a_seq (a_block ?_)
  refine a_loop (fun n st V' => ∃ (y k c : Nat) (l : List (Nat × AVal)), y = n ∧ y < 18446744073709551616 ∧ y < 256 ^ k ∧ k + c ≤ 8 ∧ st = ⟨l, 13⟩ ∧ SubT [(0, uv y), (3, iv (1 + c : Nat))] l ∧ V' = V ∧ (digs x).length = (digs y).length + c) ?_ x _ _ ⟨x, 8, 0, _, rfl, hx, by simpa using hx, by simp, rfl, ⟨rfl, rfl, trivial⟩, rfl, by simp⟩
  rintro n st V' ⟨y, k, c, l, rfl, hy, hk, hc8, rfl, hs', rfl, hd⟩
  refine a_forget hs' ?_
  refine a_seq (a_seq (a_region ?_))
  refine a_v rfl (s_move (ev_t rfl)) ?_
  refine a_v rfl (s_cmp (ev_t rfl) ev_c rfl) ?_
  refine a_nil ?_
  refine a_cond (ev_t rfl) (fun hc => a_skip ?_) (fun hc => a_exit ?_)
  · have hy0 : 0 < y := by simp at hc; omega
    have hk0 : k ≠ 0 := by rintro rfl; simp at hk; omega
    obtain ⟨k, rfl⟩ := Nat.exists_eq_succ_of_ne_zero hk0
    refine a_seq (a_block ?_)
    refine a_region ?_
    refine a_v rfl (s_move (ev_t rfl)) ?_
    refine a_v rfl (s_add (ev_t rfl) ev_c (by omega) (by omega)) ?_
    refine a_v rfl (s_assign (ev_t rfl)) ?_
    refine a_nil ?_
    refine a_region ?_
    refine a_v rfl (s_move (ev_t rfl)) ?_
    refine a_v rfl (s_shrw (ev_t rfl) ev_c (by decide) (shr8 _)) ?_
    refine a_v rfl (s_assign (ev_t rfl)) ?_
    refine a_nil ?_
    refine ⟨y / 256, by omega, y / 256, k, c + 1, _, rfl, by omega, ?_, by omega, rfl, ⟨rfl, rfl, trivial⟩, rfl, by rw [hd, digs_pos hy0]; simp; omega⟩
    rw [Nat.div_lt_iff_lt_mul (by decide)]; rwa [Nat.pow_succ] at hk
  repeat first | refine thenA_x ?_ | refine blockA_hit ?_ | refine blockA_x (by decide) ?_
  have hy0 : y = 0 := by simp at hc; omega
  subst hy0
  refine a_seq (a_region ?_)
  refine a_v rfl (s_move (ev_t rfl)) ?_
  refine a_v rfl (s_assign (ev_t rfl)) ?_
  refine a_nil ?_
  refine a_ret ?_
  refine ⟨[_], _, ⟨_, _, rfl, ev_t rfl, rfl⟩, View.le_refl _, ?_, rfl⟩
  rw [form_big hs, List.length_cons, hd, digs_zero]
  simp [oneOf, Nat.add_comm]
#print axioms fr_size
end Go.Proofs
