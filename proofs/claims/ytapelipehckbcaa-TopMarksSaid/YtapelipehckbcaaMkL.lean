/- Cells with marks: all cells, one after the other. -/
import Derived.Test.YtapelipehckbcaaMkL0
set_option linter.unusedVariables false
set_option linter.unusedSimpArgs false
set_option linter.unnecessarySimpa false
namespace Go.Proofs
open Go.AV
variable {V V₀ : View} {b : Nat} {n : Nat → Nat} {c base : Ce} {ss : List Ce} {bc cap : Nat} {X : Nat → AVal} {xm : AVal}
theorem mk_all0 (V : View) : ACalls Try.prog 51 [pt b 0] V fun x V' => ∃ b1, V b1 = none ∧ x = mfn 67 b1 ∧ V' = V.set b1 (.row [pt b 0]) := by
  refine a_fn (fn := Try.f51) Try.func51 rfl ?_ rfl
  refine a_seq (a_region ?_)
  refine a_vp rfl (s_box (ev_t rfl) rfl) fun xv Vv hx => ?_
  obtain ⟨b1, nb1, rfl, rfl⟩ := hx
  have vb1 : V b1 = none := by simpa [View.set, ] using nb1
  refine a_v rfl (s_assign ev_c) ?_
  refine a_nil ?_
  refine a_seq (a_region ?_)
  refine a_v rfl (s_makeFunc (us := []) (vs := [_]) rfl ⟨_, _, rfl, (ev_t rfl), rfl⟩) ?_
  refine a_v rfl (s_assign (ev_t rfl)) ?_
  refine a_nil ?_
  refine a_ret ?_
  exact ⟨[_], _, ⟨_, _, rfl, ev_t rfl, rfl⟩, View.le_refl _, b1, nb1, rfl, rfl⟩
theorem mk_iter {L b1 : Nat} {W : View} {Post : View → Prop} (O : Opened V b n c base ss V₀ bc cap X xm) (hn : ∀ o, o < 3 → n o ≤ 6) (K : Nat → Nat → View → Prop)
    (hle : ∀ o i V', K o i V' → V.le V') (h1 : ∀ o i V', K o i V' → V' b1 = some (.row [pt b 0])) (hV : K 0 0 W)
    (hy : ∀ o i V', o < 3 → i < n o → K o i V' → AYield Try.prog L [.agg [iv ((o + 1 : Nat) : Int), iv (i : Int)], iv (c o i)] V' fun x V'' => x = bv true ∧ K o (i + 1) V'')
    (hrow : ∀ o V', o < 3 → K o (n o) V' → K (o + 1) 0 V') (hend : ∀ V', K 3 0 V' → Post V') : ACalls Try.prog 67 [myv L, pt b1 0] W fun _ V' => Post V' := by
  have g1 := h1 _ _ _ hV
  have gl := hle _ _ _ hV
  refine a_fn (fn := Try.f67) Try.func67 rfl ?_ rfl
  refine a_seq (a_region ?_)
  refine a_v rfl (s_load Try.sh66 (ev_t rfl) g1 rfl) ?_
  refine a_v rfl (s_nilCheck (ev_t rfl)) ?_
  refine a_v rfl (s_fieldAddr Try.f122_1 rfl (ev_t rfl)) ?_
  refine a_v rfl (s_load Try.sh119 (ev_t rfl) (gl _ _ O.row) rfl) ?_
  refine a_v rfl (s_lens Try.us119 (ev_t rfl)) ?_
  refine a_v rfl (s_move ev_c) ?_
  refine a_nil ?_
  refine a_block ?_
  refine a_loop (fun m st V' => ∃ (o : Nat) (lt : List (Nat × AVal)), 3 - o = m ∧ o ≤ 3 ∧ st = ⟨lt, 34⟩ ∧ SubT [(0, myv L), (10, .v (.slice (some ⟨bc, 0, none⟩) 3 cap)), (11, iv 3), (12, iv o)] lt ∧ K o 0 V') ?_ 3 _ _ ⟨0, _, rfl, by omega, rfl, ⟨rfl, rfl, rfl, rfl, trivial⟩, hV⟩
  rintro m st W1 ⟨o, lt, rfl, ho3, rfl, hs, hK⟩
  refine a_forget hs ?_
  have gl := hle _ _ _ hK
  refine a_seq (a_region ?_)
  refine a_v rfl (s_cmp (ev_t rfl) (ev_t rfl) rfl) ?_
  refine a_nil ?_
  refine a_seq (a_cond (ev_t rfl) (fun hc => a_skip ?_) (fun hc => a_exit ?_))
  · have ho : o < 3 := by simp at hc; omega
    have hno := hn o ho
    refine a_seq (a_block ?_)
    refine a_seq (a_region ?_)
    refine a_v rfl (s_move (ev_t rfl)) ?_
    refine a_v rfl (s_idxs Try.sl119 (ev_t rfl) (ev_t rfl) (by omega) (by omega)) ?_
    refine a_v rfl (s_load Try.sh84 (ev_t rfl) (gl _ _ O.cells) (rdX ho)) ?_
    refine a_v rfl (s_assign (ev_t rfl)) ?_
    refine a_v rfl (s_assign (ev_t rfl)) ?_
    refine a_nil ?_
    refine a_seq (a_region ?_)
    refine a_v rfl (s_move (ev_t rfl)) ?_
    refine a_v rfl (s_lenA Try.us84 (ev_t rfl) (rowMono (O.rows o ho) gl)) ?_
    refine a_v rfl (s_move ev_c) ?_
    refine a_nil ?_
    refine a_block ?_
    refine a_loop (fun m2 st V' => ∃ (i : Nat) (lt : List (Nat × AVal)), n o - i = m2 ∧ i ≤ n o ∧ st = ⟨lt, 34⟩ ∧ SubT [(0, myv L), (10, .v (.slice (some ⟨bc, 0, none⟩) 3 cap)), (11, iv 3), (12, iv o), (3, iv o), (17, X o), (18, iv (n o)), (19, iv i)] lt ∧ K o i V') ?_ (n o) _ _ ⟨0, _, rfl, by omega, rfl, ⟨rfl, rfl, rfl, rfl, rfl, rfl, rfl, rfl, trivial⟩, hK⟩
    rintro m2 st W2 ⟨i, lt, rfl, hin, rfl, hs, hK⟩
    refine a_forget hs ?_
    have gl := hle _ _ _ hK
    refine a_seq (a_region ?_)
    refine a_v rfl (s_cmp (ev_t rfl) (ev_t rfl) rfl) ?_
    refine a_nil ?_
    refine a_seq (a_cond (ev_t rfl) (fun hc => a_skip ?_) (fun hc => a_exit ?_))
    · have hi : i < n o := by simp at hc; omega
      obtain ⟨r, cp, hX, hr, hrb, _⟩ := O.put o i ho hi
      rw [hX]
      refine a_seq (a_block ?_)
      refine a_seq (a_region ?_)
      refine a_v rfl (s_move (ev_t rfl)) ?_
      refine a_v rfl (s_idxs Try.sl84 (ev_t rfl) (ev_t rfl) (by omega) (by omega)) ?_
      refine a_v rfl (s_load Try.sh2 (ev_t rfl) (gl _ _ hr) (rdRow hi _ rfl)) ?_
      refine a_v rfl (s_assign (ev_t rfl)) ?_
      refine a_v rfl (s_assign (ev_t rfl)) ?_
      refine a_nil ?_
      refine a_seq (a_region ?_)
      refine a_v rfl (s_move (ev_t rfl)) ?_
      refine a_v rfl (s_move (ev_t rfl)) ?_
      refine a_v rfl (OpS.cast (congrArg iv (by push_cast; rfl : _ = ((o + 1 : Nat) : Int))) (s_add (ev_t rfl) ev_c (by omega) (by omega))) ?_
      refine a_v rfl (s_move (ev_t rfl)) ?_
      refine a_v rfl (s_build Try.z124 Try.pl124 (.cons (ev_t rfl) (.cons (ev_t rfl) .nil)) rfl) ?_
      refine a_v rfl (s_move (ev_t rfl)) ?_
      refine a_vp rfl (s_yield (ev_t rfl) (.cons (ev_t rfl) (.cons (ev_t rfl) .nil)) (hy o i _ ho hi hK)) fun xv Vv hx => ?_
      obtain ⟨rfl, hK2⟩ := hx
      refine a_v rfl (s_not (ev_t rfl)) ?_
      refine a_nil ?_
      refine a_cond (ev_t rfl) (fun hc => ?_) (fun hc => a_skip ?_)
      · cases hc
      repeat first | refine thenA_x ?_ | refine blockA_hit ?_ | refine blockA_x (by decide) ?_
      refine a_region ?_
      refine a_v rfl (s_add (ev_t rfl) ev_c (by omega) (by omega)) ?_
      refine a_v rfl (s_move (ev_t rfl)) ?_
      refine a_nil ?_
      exact ⟨n o - (i + 1), by omega, i + 1, _, rfl, by omega, rfl, ⟨rfl, rfl, rfl, rfl, rfl, rfl, rfl, rfl, trivial⟩, hK2⟩
    repeat first | refine thenA_x ?_ | refine blockA_hit ?_ | refine blockA_x (by decide) ?_
    have hi' : i = n o := by simp at hc; omega
    subst hi'
    refine a_region ?_
    refine a_v rfl (s_add (ev_t rfl) ev_c (by omega) (by omega)) ?_
    refine a_v rfl (s_move (ev_t rfl)) ?_
    refine a_nil ?_
    exact ⟨3 - (o + 1), by omega, o + 1, _, rfl, by omega, rfl, ⟨rfl, rfl, rfl, rfl, trivial⟩, hrow o _ ho hK⟩
  repeat first | refine thenA_x ?_ | refine blockA_hit ?_ | refine blockA_x (by decide) ?_
  have ho' : o = 3 := by simp at hc; omega
  subst ho'
  exact ⟨[], _, rfl, View.le_refl _, hend _ hK⟩
#print axioms mk_iter
end Go.Proofs
