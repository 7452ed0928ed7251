/- Cells with marks: a copy of a memory. -/
import Derived.Test.YtapelipehckbcaaMkJ
set_option linter.unusedVariables false
set_option linter.unusedSimpArgs false
set_option linter.unnecessarySimpa false
namespace Go.AV
theorem View.pair_le {V : View} {a b : Nat} {x y : AObj} (ha : V a = some x) (hb : V b = some y) : View.le (View.set (View.set (fun _ => none) a x) b y) V := by
  intro k o hk
  by_cases e : k = b
  · subst e; simp at hk; subst hk; exact hb
  · rw [View.set_other _ _ e] at hk
    exact View.one_le ha _ _ hk
end Go.AV
namespace Go.Proofs
open Go.AV
variable {V V₀ : View} {b : Nat} {n : Nat → Nat} {c base : Ce} {ss : List Ce}
theorem mk_copy (M : Mem V b n c c ss V₀) (hn : ∀ o, o < 3 → n o ≤ 6) (hss : ss.length ≤ 64) : ACalls Try.prog 26 [pt b 0] V (fun x V' => ∃ b', x = pt b' 0 ∧ Mem V' b' n c c ss V) := by
  obtain ⟨bc, cap, X, xm, O⟩ := M.open
  obtain ⟨cm0, hM0⟩ := O.marks
  refine a_fn (fn := Try.f26) Try.func26 rfl ?_ rfl
  refine a_seq (a_region ?_)
  refine a_v rfl (s_assign ev_c) ?_
  refine a_nil ?_
  refine a_seq (a_seq (a_region ?_))
  refine a_v rfl (s_move (ev_t rfl)) ?_
  refine a_v rfl (s_call Try.okM48 ev_f (.cons (ev_t rfl) .nil) (mk_is O.row)) ?_
  refine a_v rfl (s_not (ev_t rfl)) ?_
  refine a_nil ?_
  refine a_cond (ev_t rfl) (fun hc => ?_) (fun hc => a_skip ?_)
  · exfalso; simp at hc
  repeat first | refine thenA_x ?_ | refine blockA_hit ?_ | refine blockA_x (by decide) ?_
  refine a_seq (a_region ?_)
  refine a_v rfl (s_build Try.z122 Try.pl122 (.cons ev_c .nil) rfl) ?_
  refine a_vp rfl (s_box (ev_t rfl) rfl) fun xv Vv hx => ?_
  obtain ⟨bo, nbo, rfl, rfl⟩ := hx
  have vbo : V bo = none := by simpa [View.set, ] using nbo
  refine a_v rfl (s_assign (ev_t rfl)) ?_
  refine a_nil ?_
  have hB0 : Build (V.set bo (.row [bv true, nilS, nilS])) bo n c 0 V := Build.start nbo
  refine a_gen fun W1 hW1 => ?_
  have hB1 : Build W1 bo n c 0 V := by rw [hW1]; exact hB0
  clear hW1 hB0
  refine a_seq (a_seq (a_region ?_))
  refine a_v rfl (s_move (ev_t rfl)) ?_
  refine a_v rfl (s_nilCheck (ev_t rfl)) ?_
  refine a_v rfl (s_fieldAddr Try.f122_1 rfl (ev_t rfl)) ?_
  refine a_v rfl (s_load Try.sh119 (ev_t rfl) (hB1.le _ _ O.row) rfl) ?_
  refine a_v rfl (s_lens Try.us119 (ev_t rfl)) ?_
  refine a_v rfl (s_move ev_c) ?_
  refine a_nil ?_
  refine a_block ?_
  refine a_loop (fun m st V' => ∃ (i : Nat) (lt : List (Nat × AVal)), 3 - i = m ∧ i ≤ 3 ∧ st = ⟨lt, 58⟩ ∧ SubT [(0, pt b 0), (3, pt bo 0), (16, .v (.slice (some ⟨bc, 0, none⟩) 3 cap)), (17, iv 3), (18, iv i)] lt ∧ Build V' bo n c i V) ?_ 3 _ _ ⟨0, _, rfl, by omega, rfl, ⟨rfl, rfl, rfl, rfl, rfl, trivial⟩, hB1⟩
  rintro m st W ⟨i, lt, rfl, hi3, rfl, hs, hB⟩
  refine a_forget hs ?_
  refine a_seq (a_region ?_)
  refine a_v rfl (s_cmp (ev_t rfl) (ev_t rfl) rfl) ?_
  refine a_nil ?_
  refine a_seq (a_cond (ev_t rfl) (fun hc => a_skip ?_) (fun hc => a_exit ?_))
  · have hi' : i < 3 := by simp at hc; omega
    have hni := hn i hi'
    obtain ⟨xc0, hb0⟩ := hB.row
    refine a_seq (a_block ?_)
    refine a_seq (a_region ?_)
    refine a_v rfl (s_idxs Try.sl119 (ev_t rfl) (ev_t rfl) (by omega) (by omega)) ?_
    refine a_v rfl (s_load Try.sh84 (ev_t rfl) (hB.le _ _ O.cells) (rdX hi')) ?_
    refine a_v rfl (s_assign (ev_t rfl)) ?_
    refine a_nil ?_
    refine a_draw [false, false, false, false, false, false, true, false, true, false, false, true] (View.set (fun _ => none) bo (.row [bv true, xc0, nilS])) Try.mixed rfl (by kernel_rfl) (View.one_le hb0) ?_
    refine d_v (fun V' hU => f_plain rfl (s_move (ev_o rfl rfl))) ?_
    refine d_v (fun V' hU => f_plain rfl (s_move (ev_o rfl rfl))) ?_
    refine d_v (fun V' hU => f_plain rfl (s_nilCheck (ev_o rfl rfl))) ?_
    refine d_v (fun V' hU => f_plain rfl (s_fieldAddr Try.f122_1 rfl (ev_o rfl rfl))) ?_
    refine d_v (fun V' hU => f_plain rfl (s_load Try.sh119 (ev_o rfl rfl) (hU _ _ (View.set_same _ _ _)) rfl)) ?_
    refine d_v (fun V' hU => f_plain rfl (s_move (ev_o rfl rfl))) ?_
    refine d_vp (s_call Try.okM52 ev_f (.cons (ev_o rfl rfl) .nil) (mk_clone (rowMono (O.rows i hi') hB.le) hni (rowV_one _ _ _))) fun xv Vv hx => ?_
    have hx1 := hx
    refine ⟨View.one_le (accLe hx1 _ _ hb0), ?_⟩
    obtain ⟨xc, cs, V₁, hb1, hb2, hb3, hA, hF⟩ := hB.step hx1
    obtain ⟨ad, cp, rfl⟩ := rowLen (accRow hx1)
    obtain rfl : xc0 = xc := by have := hb0.symm.trans hb1; simpa using this
    refine d_v (fun V' hU => f_plain rfl (s_litx Try.sl119 Try.z84 rfl rfl (.cons (ev_o rfl rfl) .nil) rfl rfl rfl)) ?_
    refine d_vp (s_acc Try.sl119 Try.src119 Try.z84 rfl Try.by84 (ev_o rfl rfl) hA (src_one (ev_o rfl rfl) rfl rfl) rfl (by omega) (by omega)) fun xv Vv hx => ?_
    have A26 := hx; refine ⟨View.one_le (accLe A26 _ _ hb3), ?_⟩
    obtain ⟨u26, rfl, hu26⟩ := accVal A26
    refine d_v (fun V' hU => f_plain rfl (s_nilCheck (ev_o rfl rfl))) ?_
    refine d_v (fun V' hU => f_plain rfl (s_fieldAddr Try.f122_1 rfl (ev_o rfl rfl))) ?_
    first | refine d_b (s_storew Try.sh119 (ev_o rfl rfl) (ev_o rfl rfl) (accLe A26 _ _ hb3) hu26 rfl (by first | decide | (simp; done) | (simp; omega)) rfl) rfl _ (View.le_refl _) ?_ | refine d_e (s_storew Try.sh119 (ev_o rfl rfl) (ev_o rfl rfl) (accLe A26 _ _ hb3) hu26 rfl (by first | decide | (simp; done) | (simp; omega)) rfl) (View.le_refl _) ?_
    refine d_nil ?_
    have hB2 := hF _ _ A26
    refine a_region ?_
    refine a_v rfl (s_add (ev_t rfl) ev_c (by omega) (by omega)) ?_
    refine a_v rfl (s_move (ev_t rfl)) ?_
    refine a_nil ?_
    refine ⟨3 - (i + 1), by omega, i + 1, _, rfl, by omega, rfl, ⟨rfl, rfl, rfl, rfl, rfl, trivial⟩, hB2⟩
  repeat first | refine thenA_x ?_ | refine blockA_hit ?_ | refine blockA_x (by decide) ?_
  have hi3' : i = 3 := by simp at hc; omega
  subst hi3'
  have M1 := hB.done
  clear hB hB1
  refine a_seq (a_seq (a_region ?_))
  refine a_v rfl (s_move (ev_t rfl)) ?_
  refine a_v rfl (s_nilCheck (ev_t rfl)) ?_
  refine a_v rfl (s_fieldAddr Try.f122_2 rfl (ev_t rfl)) ?_
  refine a_v rfl (s_load Try.sh120 (ev_t rfl) (M1.le _ _ O.row) rfl) ?_
  refine a_v rfl (s_lenA Try.us120 (ev_t rfl) (rowMono hM0 M1.le)) ?_
  refine a_v rfl (s_move ev_c) ?_
  refine a_nil ?_
  refine a_block ?_
  refine a_loop (fun m st V' => ∃ (pre suf : List Ce) (lt : List (Nat × AVal)), pre.length = m ∧ ss = pre ++ suf ∧ st = ⟨lt, 58⟩ ∧ SubT [(0, pt b 0), (3, pt bo 0), (37, xm), (38, iv ss.length), (39, iv suf.length)] lt ∧ Mem V' bo n c ((pre.getLast?).getD c) suf V) ?_ ss.length _ _ ⟨ss, [], _, rfl, by simp, rfl, ⟨rfl, rfl, rfl, rfl, rfl, trivial⟩, M1.rebase⟩
  rintro m st W2 ⟨pre, suf, lt, rfl, hsp, rfl, hs, M2⟩
  refine a_forget hs ?_
  refine a_seq (a_region ?_)
  refine a_v rfl (s_cmp (ev_t rfl) (ev_t rfl) rfl) ?_
  refine a_nil ?_
  refine a_seq (a_cond (ev_t rfl) (fun hc => a_skip ?_) (fun hc => a_exit ?_))
  · have hlen : ss.length = pre.length + suf.length := by rw [hsp]; simp
    have hpne : pre ≠ [] := by rintro rfl; simp [hlen] at hc
    obtain ⟨pre', s, rfl⟩ : ∃ p s, pre = p ++ [s] := ⟨_, _, (List.dropLast_concat_getLast hpne).symm⟩
    have hsp' : ss = pre' ++ s :: suf := by rw [hsp]; simp
    have hlt : suf.length < ss.length := by rw [hlen]; simp
    obtain ⟨xc', bm, cm, bt, cs, g1, g2, g3, g4⟩ := M.markAt hsp'
    have hxm : xm = .v (.slice (some ⟨bm, 0, none⟩) ss.length cm) := by have := O.row.symm.trans g1; simp at this; exact this.2
    rw [hxm]
    simp only [List.getLast?_append, List.getLast?_singleton, Option.some_or, Option.getD_some] at M2
    refine a_seq (a_block ?_)
    refine a_seq (a_region ?_)
    refine a_v rfl (s_idxs Try.sl120 (ev_t rfl) (ev_t rfl) (by omega) (by omega)) ?_
    refine a_v rfl (s_load Try.sh128 (ev_t rfl) (M2.le _ _ g2) g3) ?_
    refine a_vp rfl (s_alloc Try.z128) fun xv Vv hx => ?_
    obtain ⟨tk, ntk, rfl, rfl⟩ := hx
    have vtk : W2 tk = none := by simpa [View.set, ] using ntk
    refine a_s (s_store Try.sh128 (ev_t rfl) (ev_t rfl) (by simp [View.set, View.drop, vtk] <;> first | exact ⟨rfl, rfl⟩ | exact rfl) rfl rfl (by first | decide | (simp; done) | (simp; omega))) ?_
    refine a_nil ?_
    have M3 := M2.new (.row [mpv bt]) ntk
    have n0tk : V tk = none := View.le_none M2.le ntk
    refine a_gen fun W3 hW3 => ?_
    have hW3' : W3 = W2.set tk (.row [mpv bt]) := by rw [hW3]; exact View.set_set _ _ _ _
    rw [← hW3'] at M3
    have htk : W3 tk = some (.row [mpv bt]) := M3.le _ _ (View.set_same _ _ _)
    have hbt : W3 bt = some (.mp (dif s ((pre'.getLast?).getD c))) := by rw [hW3']; exact View.le_self_set ntk _ _ (M2.le _ _ g4)
    obtain ⟨xco, xmo, mso, V₁o, _, hbo, _, _, _, _⟩ := M3.apart
    have hneo : bo ≠ tk := by
      obtain ⟨_, _, _, _, _, h, _⟩ := M2.apart
      exact View.ne_of h ntk
    refine a_draw [false, false, false, false, false, false, false, true, false, false, true, false, false, true] (View.set (View.set (fun _ => none) bo (.row [bv true, xco, xmo])) tk (.row [mpv bt])) Try.mixed rfl (by kernel_rfl) (View.pair_le hbo htk) ?_
    refine d_v (fun V' hU => f_plain rfl (s_move (ev_o rfl rfl))) ?_
    refine d_v (fun V' hU => f_plain rfl (s_move (ev_o rfl rfl))) ?_
    refine d_v (fun V' hU => f_plain rfl (s_nilCheck (ev_o rfl rfl))) ?_
    refine d_v (fun V' hU => f_plain rfl (s_fieldAddr Try.f122_2 rfl (ev_o rfl rfl))) ?_
    refine d_v (fun V' hU => f_plain rfl (s_load Try.sh120 (ev_o rfl rfl) (hU _ _ (by rw [View.set_other _ _ hneo]; exact View.set_same _ _ _)) rfl)) ?_
    refine d_v (fun V' hU => f_plain rfl (s_fieldAddr Try.f128_0 rfl (ev_o rfl rfl))) ?_
    refine d_v (fun V' hU => f_plain rfl (s_load Try.sh126 (ev_o rfl rfl) (hU _ _ (View.set_same _ _ _)) rfl)) ?_
    refine d_vp (s_call Try.okM53 ev_f (.cons (ev_o rfl rfl) .nil) (mk_mclone hbt)) fun xv Vv hx => ?_
    obtain ⟨b', nb', rfl, rfl⟩ := hx
    obtain ⟨xc, xm2, ms, V₁, hb2, hb3, hle1, hA, hF⟩ := M3.pushG ((pre'.getLast?).getD c) nb'
    obtain ⟨rfl, rfl⟩ : xco = xc ∧ xmo = xm2 := by
      have := hbo.symm.trans ((View.set_other _ _ (View.ne_of hbo nb')).symm.trans hb2)
      simpa using this
    refine ⟨View.le_trans (View.pair_le hbo htk) (View.le_self_set nb'), ?_⟩
    refine d_v (fun V' hU => f_plain rfl (s_build Try.z128 Try.pl128 (.cons (ev_o rfl rfl) .nil) rfl)) ?_
    refine d_v (fun V' hU => f_plain rfl (s_litx Try.sl120 Try.z128 rfl rfl (.cons (ev_o rfl rfl) .nil) rfl rfl rfl)) ?_
    refine d_vp (s_acc Try.sl120 Try.src120 Try.z128 rfl Try.by128 (ev_o rfl rfl) hA (src_one (ev_o rfl rfl) rfl rfl) rfl (by omega) (by omega)) fun xv Vv hx => ?_
    have A53 := hx; refine ⟨View.pair_le (accLe A53 _ _ hb3) (accLe A53 _ _ (hle1 _ _ (View.set_same _ _ _))), ?_⟩
    obtain ⟨u53, rfl, hu53⟩ := accVal A53
    refine d_v (fun V' hU => f_plain rfl (s_nilCheck (ev_o rfl rfl))) ?_
    refine d_v (fun V' hU => f_plain rfl (s_fieldAddr Try.f122_2 rfl (ev_o rfl rfl))) ?_
    first | refine d_b (s_storew Try.sh120 (ev_o rfl rfl) (ev_o rfl rfl) (accLe A53 _ _ hb3) hu53 rfl (by first | decide | (simp; done) | (simp; omega)) rfl) rfl _ (View.le_refl _) ?_ | refine d_e (s_storew Try.sh120 (ev_o rfl rfl) (ev_o rfl rfl) (accLe A53 _ _ hb3) hu53 rfl (by first | decide | (simp; done) | (simp; omega)) rfl) (View.le_refl _) ?_
    refine d_nil ?_
    have M4 := (hF _ _ A53).less (View.le_self_set n0tk)
    refine a_region ?_
    refine a_v rfl (s_add (ev_t rfl) ev_c (by omega) (by omega)) ?_
    refine a_v rfl (s_move (ev_t rfl)) ?_
    refine a_nil ?_
    refine ⟨pre'.length, by simp, pre', s :: suf, _, rfl, hsp', rfl, ⟨rfl, rfl, rfl, rfl, rfl, trivial⟩, M4⟩
  repeat first | refine thenA_x ?_ | refine blockA_hit ?_ | refine blockA_x (by decide) ?_
  have hpe : pre = [] := by
    match pre, hsp, hc with
    | [], _, _ => rfl
    | p :: q, h, hc => rw [h] at hc; simp at hc; omega
  subst hpe
  simp only [List.nil_append] at hsp
  subst hsp
  have M3 : Mem W2 bo n c c ss V := M2
  refine a_seq (a_region ?_)
  refine a_v rfl (s_move (ev_t rfl)) ?_
  refine a_v rfl (s_assign (ev_t rfl)) ?_
  refine a_nil ?_
  refine a_ret ?_
  exact ⟨[_], _, ⟨_, _, rfl, ev_t rfl, rfl⟩, View.le_refl _, bo, rfl, M3⟩
#print axioms mk_copy
end Go.Proofs
