/- Cells with marks: a mark is set; the top mark is taken away. -/
import Derived.Test.YtapelipehckbcaaMkE0
set_option linter.unusedVariables false
set_option linter.unusedSimpArgs false
namespace Go.Proofs
open Go.AV
variable {V V₀ : View} {b : Nat} {n : Nat → Nat} {c base : Ce} {ss : List Ce}
theorem mk_mark (M : Mem V b n c c ss V₀) (hss : ss.length < 64) : ACalls Try.prog 20 [pt b 0] V (fun x V' => x = .tuple [iv (ss.length + 1 : Nat), iv 0] ∧ Mem V' b n c c (c :: ss) V₀) := by
  obtain ⟨xc0, xm0, ms0, V₁0, _, hb, _, _, hA0, _⟩ := M.apart
  refine a_fn (fn := Try.f20) Try.func20 rfl ?_ rfl
  refine a_seq (a_region ?_)
  refine a_v rfl (s_assign ev_c) ?_
  refine a_v rfl (s_assign ev_c) ?_
  refine a_nil ?_
  refine a_seq (a_block ?_)
  refine a_seq (a_region ?_)
  refine a_v rfl (s_move (ev_t rfl)) ?_
  refine a_v rfl (s_call Try.okM48 ev_f (.cons (ev_t rfl) .nil) (mk_is hb)) ?_
  refine a_v rfl (s_not (ev_t rfl)) ?_
  refine a_v rfl (s_assign (ev_t rfl)) ?_
  refine a_nil ?_
  refine a_cond (ev_t rfl) (fun hc => ?_) (fun hc => ?_)
  · exfalso; simp at hc
  refine a_seq (a_region ?_)
  refine a_v rfl (s_move (ev_t rfl)) ?_
  refine a_v rfl (s_nilCheck (ev_t rfl)) ?_
  refine a_v rfl (s_fieldAddr Try.f122_2 rfl (ev_t rfl)) ?_
  refine a_v rfl (s_load Try.sh120 (ev_t rfl) hb rfl) ?_
  refine a_v rfl (s_lenA Try.us120 (ev_t rfl) (accRow hA0)) ?_
  refine a_v rfl (s_cmp (ev_t rfl) ev_c rfl) ?_
  refine a_v rfl (s_assign (ev_t rfl)) ?_
  refine a_nil ?_
  refine a_cond (ev_t rfl) (fun hc => ?_) (fun hc => a_skip ?_)
  · exfalso; simp at hc; omega
  repeat first | refine thenA_x ?_ | refine blockA_hit ?_ | refine blockA_x (by decide) ?_
  refine a_seq (a_region ?_)
  refine a_v rfl (s_move (ev_t rfl)) ?_
  refine a_v rfl (s_move (ev_t rfl)) ?_
  refine a_v rfl (s_nilCheck (ev_t rfl)) ?_
  refine a_v rfl (s_fieldAddr Try.f122_2 rfl (ev_t rfl)) ?_
  refine a_v rfl (s_load Try.sh120 (ev_t rfl) hb rfl) ?_
  refine a_vp rfl (s_makemap) fun xv Vv hx => ?_
  obtain ⟨bN, nbN, rfl, rfl⟩ := hx
  have hneN : b ≠ bN := by rintro rfl; rw [nbN] at hb; cases hb
  obtain ⟨xc, xm, ms, V₁, hb2, hb1, hA, hF⟩ := M.pushed nbN
  have e2 := hb.symm.trans ((View.set_other V (.mp []) hneN).symm.trans hb2)
  simp only [Option.some.injEq, AObj.rown.injEq, List.cons.injEq, and_true, true_and] at e2
  obtain ⟨rfl, rfl⟩ := e2
  refine a_v rfl (s_build Try.z128 Try.pl128 (.cons (ev_t rfl) .nil) rfl) ?_
  refine a_v rfl (s_litx Try.sl120 Try.z128 rfl rfl (.cons (ev_t rfl) .nil) rfl rfl rfl) ?_
  refine a_vp rfl (s_acc Try.sl120 Try.src120 Try.z128 rfl Try.by128 (ev_t rfl) hA (src_one (ev_t rfl) rfl rfl) rfl (by omega) (by omega)) fun xv Vv hx => ?_
  have A23 := hx
  obtain ⟨u23, rfl, hu23⟩ := accVal A23
  refine a_v rfl (s_nilCheck (ev_t rfl)) ?_
  refine a_v rfl (s_fieldAddr Try.f122_2 rfl (ev_t rfl)) ?_
  refine a_s (s_storew Try.sh120 (ev_t rfl) (ev_t rfl) (accLe A23 _ _ hb1) hu23 rfl (by first | decide | (simp; done) | (simp; omega)) rfl) ?_
  refine a_nil ?_
  have M' := hF _ _ A23
  refine a_gen fun W hW => ?_
  have M2 : Mem W b n c c (c :: ss) V₀ := by rw [hW]; exact M'
  obtain ⟨bc, cap, X, xm2, O⟩ := M2.open
  obtain ⟨cm, hM⟩ := O.marks
  refine a_seq (a_region ?_)
  refine a_v rfl (s_move (ev_t rfl)) ?_
  refine a_v rfl (s_nilCheck (ev_t rfl)) ?_
  refine a_v rfl (s_fieldAddr Try.f122_2 rfl (ev_t rfl)) ?_
  refine a_v rfl (s_load Try.sh120 (ev_t rfl) O.row rfl) ?_
  refine a_v rfl (s_lenA Try.us120 (ev_t rfl) hM) ?_
  refine a_v rfl (s_assign (ev_t rfl)) ?_
  refine a_v rfl (s_assign ev_c) ?_
  refine a_nil ?_
  refine a_ret ?_
  exact ⟨[_, _], _, ⟨_, _, rfl, ev_t rfl, _, _, rfl, ev_t rfl, rfl⟩, View.le_refl _, rfl, M2⟩
theorem mk_pop_none (M : Mem V b n c base [] V₀) : ACalls Try.prog 49 [pt b 0] V (fun x V' => x = .tuple [.agg [.v (.map none)], iv 213] ∧ V' = V) := by
  obtain ⟨xc0, xm0, ms0, V₁0, _, hb, _, _, hA0, _⟩ := M.apart
  refine a_fn (fn := Try.f49) Try.func49 rfl ?_ rfl
  refine a_seq (a_region ?_)
  refine a_vp rfl (s_alloc Try.z128) fun xv Vv hx => ?_
  obtain ⟨rb, nrb, rfl, rfl⟩ := hx
  have vrb : V rb = none := by simpa [View.set, ] using nrb
  refine a_v rfl (s_assign ev_c) ?_
  refine a_nil ?_
  refine a_gen fun W hW => ?_
  have hb' : W b = some (.row [bv true, xc0, xm0]) := by rw [hW, View.set_other _ _ (View.ne_of hb nrb)]; exact hb
  have hA' := accRow hA0
  refine a_seq (a_block ?_)
  refine a_seq (a_region ?_)
  refine a_v rfl (s_move (ev_t rfl)) ?_
  refine a_v rfl (s_call Try.okM48 ev_f (.cons (ev_t rfl) .nil) (mk_is hb')) ?_
  refine a_v rfl (s_not (ev_t rfl)) ?_
  refine a_v rfl (s_assign (ev_t rfl)) ?_
  refine a_nil ?_
  refine a_cond (ev_t rfl) (fun hc => ?_) (fun hc => ?_)
  · exfalso; simp at hc
  refine a_seq (a_region ?_)
  refine a_v rfl (s_move (ev_t rfl)) ?_
  refine a_v rfl (s_nilCheck (ev_t rfl)) ?_
  refine a_v rfl (s_fieldAddr Try.f122_2 rfl (ev_t rfl)) ?_
  refine a_v rfl (s_load Try.sh120 (ev_t rfl) hb' rfl) ?_
  refine a_v rfl (s_lenA Try.us120 (ev_t rfl) (rowMono hA' (by rw [hW]; exact View.le_self_set nrb))) ?_
  refine a_v rfl (s_cmp (ev_t rfl) ev_c rfl) ?_
  refine a_v rfl (s_assign (ev_t rfl)) ?_
  refine a_nil ?_
  refine a_cond (ev_t rfl) (fun hc => ?_) (fun hc => ?_)
  rotate_left
  · exfalso; simp at hc
  have hrb : W rb = some (.row [.v (.map none)]) := by rw [hW]; exact View.set_same _ _ _
  refine a_seq (a_region ?_)
  refine a_v rfl (s_build Try.z128 Try.pl128 .nil rfl) ?_
  refine a_s (s_storew Try.sh128 (ev_t rfl) (ev_t rfl) hrb rfl rfl (by first | decide | (simp; done) | (simp; omega)) rfl) ?_
  refine a_v rfl (s_assign ev_c) ?_
  refine a_nil ?_
  refine a_ret ?_
  refine ⟨[_, _], V, ⟨_, _, _, _, _, _, _, _, rfl, Try.sh128, ev_t rfl, View.set_same _ _ _, rfl, _, _, rfl, ev_t rfl, rfl⟩, ?_, rfl, rfl⟩
  rw [hW, View.set_set]
  exact View.le_self_set nrb
theorem mk_pop {s : Ce} {t : List Ce} (M : Mem V b n c base (s :: t) V₀) (hss : t.length < 64) : ACalls Try.prog 49 [pt b 0] V (fun x V' => ∃ bt, V₀ bt = none ∧ x = .tuple [.agg [mpv bt], iv 0] ∧ Mem V' b n c s t (V₀.set bt (.mp (dif s base)))) := by
  refine a_fn (fn := Try.f49) Try.func49 rfl ?_ rfl
  refine a_seq (a_region ?_)
  refine a_vp rfl (s_alloc Try.z128) fun xv Vv hx => ?_
  obtain ⟨rb, nrb, rfl, rfl⟩ := hx
  have vrb : V rb = none := by simpa [View.set, ] using nrb
  refine a_v rfl (s_assign ev_c) ?_
  refine a_nil ?_
  refine a_gen fun W hW => ?_
  have M1 : Mem W b n c base (s :: t) (V₀.set rb (.row [.v (.map none)])) := by rw [hW]; exact M.new _ nrb
  have n0rb : V₀ rb = none := View.le_none M.le nrb
  clear hW nrb M
  obtain ⟨xc, bm, cm, ms, bt, V₁, hms, hb, hb1, hbm, hle, hA, hF⟩ := M1.popped
  refine a_seq (a_block ?_)
  refine a_seq (a_region ?_)
  refine a_v rfl (s_move (ev_t rfl)) ?_
  refine a_v rfl (s_call Try.okM48 ev_f (.cons (ev_t rfl) .nil) (mk_is hb)) ?_
  refine a_v rfl (s_not (ev_t rfl)) ?_
  refine a_v rfl (s_assign (ev_t rfl)) ?_
  refine a_nil ?_
  refine a_cond (ev_t rfl) (fun hc => ?_) (fun hc => ?_)
  · exfalso; simp at hc
  refine a_seq (a_region ?_)
  refine a_v rfl (s_move (ev_t rfl)) ?_
  refine a_v rfl (s_nilCheck (ev_t rfl)) ?_
  refine a_v rfl (s_fieldAddr Try.f122_2 rfl (ev_t rfl)) ?_
  refine a_v rfl (s_load Try.sh120 (ev_t rfl) hb rfl) ?_
  refine a_v rfl (s_lens Try.us120 (ev_t rfl)) ?_
  refine a_v rfl (s_cmp (ev_t rfl) ev_c rfl) ?_
  refine a_v rfl (s_assign (ev_t rfl)) ?_
  refine a_nil ?_
  refine a_cond (ev_t rfl) (fun hc => ?_) (fun hc => a_skip ?_)
  · exfalso; simp at hc; omega
  repeat first | refine thenA_x ?_ | refine blockA_hit ?_ | refine blockA_x (by decide) ?_
  refine a_seq (a_draw [false, false, false, false, false, false, false, false, false, false, false, false, true, true] (_) Try.mixed rfl (by kernel_rfl) (View.le_refl _) ?_)
  refine d_v (fun V' hU => f_plain rfl (s_move (ev_o rfl rfl))) ?_
  refine d_v (fun V' hU => f_plain rfl (s_nilCheck (ev_o rfl rfl))) ?_
  refine d_v (fun V' hU => f_plain rfl (s_fieldAddr Try.f122_2 rfl (ev_o rfl rfl))) ?_
  refine d_v (fun V' hU => f_plain rfl (s_load Try.sh120 (ev_o rfl rfl) (hU _ _ hb) rfl)) ?_
  refine d_v (fun V' hU => f_plain rfl (s_move (ev_o rfl rfl))) ?_
  refine d_v (fun V' hU => f_plain rfl (s_nilCheck (ev_o rfl rfl))) ?_
  refine d_v (fun V' hU => f_plain rfl (s_fieldAddr Try.f122_2 rfl (ev_o rfl rfl))) ?_
  refine d_v (fun V' hU => f_plain rfl (s_load Try.sh120 (ev_o rfl rfl) (hU _ _ hb) rfl)) ?_
  refine d_v (fun V' hU => f_plain rfl (s_lens Try.us120 (ev_o rfl rfl))) ?_
  refine d_v (fun V' hU => f_plain rfl (OpS.cast (congrArg iv (by push_cast; omega : _ = ((t.length : Nat) : Int))) (s_sub (ev_o rfl rfl) ev_c (by push_cast; omega) (by push_cast; omega)))) ?_
  refine d_v (fun V' hU => f_plain rfl (s_idxs Try.sl120 (ev_o rfl rfl) (ev_o rfl rfl) (by omega) (by push_cast; omega))) ?_
  refine d_v (fun V' hU => f_plain rfl (s_load Try.sh128 (ev_o rfl rfl) (hU _ _ hbm) (rowM_get (by omega)))) ?_
  refine d_vp (s_alloc Try.z128) fun xv Vv hx => ?_
  obtain ⟨tb, ntb, rfl, rfl⟩ := hx
  refine ⟨View.le_set (by first | exact View.le_refl _ | assumption) ntb, ?_⟩
  have vtb : W tb = none := by simpa [View.set, ] using ntb
  first | refine d_b (s_store Try.sh128 (ev_o rfl rfl) (ev_o rfl rfl) (by simp [View.set, View.drop, vtb] <;> first | exact ⟨rfl, rfl⟩ | exact rfl) rfl rfl (by first | decide | (simp; done) | (simp; omega))) rfl _ (View.le_refl _) ?_ | refine d_e (s_store Try.sh128 (ev_o rfl rfl) (ev_o rfl rfl) (by simp [View.set, View.drop, vtb] <;> first | exact ⟨rfl, rfl⟩ | exact rfl) rfl rfl (by first | decide | (simp; done) | (simp; omega))) (View.le_set (View.le_self_set ntb) ntb) ?_
  refine d_nil ?_
  refine a_gen fun W2 hW2 => ?_
  have hW2' : W2 = W.set tb (.row [mpv bt]) := by rw [hW2]; exact View.set_set _ _ _ _
  clear hW2
  have hA2 : Acc W2 (.v (.slice (some ⟨bm, 0, none⟩) (t.length + 1) cm)) 1 (t.length + 1) ((ms.reverse ++ [bt]).map mpv) (V₁.set tb (.row [mpv bt])) := by rw [hW2']; exact hA.set _ ntb
  have hneb : b ≠ tb := View.ne_of hb ntb
  have hb2 : W2 b = some (.row [bv true, xc, .v (.slice (some ⟨bm, 0, none⟩) (t.length + 1) cm)]) := by rw [hW2', View.set_other _ _ hneb]; exact hb
  have n1tb : V₁ tb = none := hA.none ntb
  refine a_seq (a_draw [false, false, false, false, false, false, false, false, false, false, false, true, false, false, true] (View.set (fun _ => none) b (.row [bv true, xc, .v (.slice (some ⟨bm, 0, none⟩) (t.length + 1) cm)])) Try.mixed rfl (by kernel_rfl) (View.one_le hb2) ?_)
  refine d_v (fun V' hU => f_plain rfl (s_move (ev_o rfl rfl))) ?_
  refine d_v (fun V' hU => f_plain rfl (s_move (ev_o rfl rfl))) ?_
  refine d_v (fun V' hU => f_plain rfl (s_nilCheck (ev_o rfl rfl))) ?_
  refine d_v (fun V' hU => f_plain rfl (s_fieldAddr Try.f122_2 rfl (ev_o rfl rfl))) ?_
  refine d_v (fun V' hU => f_plain rfl (s_load Try.sh120 (ev_o rfl rfl) (hU _ _ (View.set_same _ _ _)) rfl)) ?_
  refine d_v (fun V' hU => f_plain rfl (s_move (ev_o rfl rfl))) ?_
  refine d_v (fun V' hU => f_plain rfl (s_nilCheck (ev_o rfl rfl))) ?_
  refine d_v (fun V' hU => f_plain rfl (s_fieldAddr Try.f122_2 rfl (ev_o rfl rfl))) ?_
  refine d_v (fun V' hU => f_plain rfl (s_load Try.sh120 (ev_o rfl rfl) (hU _ _ (View.set_same _ _ _)) rfl)) ?_
  refine d_v (fun V' hU => f_plain rfl (s_lens Try.us120 (ev_o rfl rfl))) ?_
  refine d_v (fun V' hU => f_plain rfl (OpS.cast (congrArg iv (by push_cast; omega : _ = ((t.length : Nat) : Int))) (s_sub (ev_o rfl rfl) ev_c (by push_cast; omega) (by push_cast; omega)))) ?_
  refine d_vp (s_sliceA (h := t.length) Try.sl120 (ev_o rfl rfl) hA2 rfl (bnd_t (ev_o rfl rfl) (by omega)) (by omega)) fun xv Vv hx => ?_
  have A41 := hx; obtain ⟨u41, rfl, hu41⟩ := accVal A41; refine ⟨View.one_le (accLe A41 _ _ (by rw [View.set_other _ _ hneb]; exact hb1)), ?_⟩
  refine d_v (fun V' hU => f_plain rfl (s_nilCheck (ev_o rfl rfl))) ?_
  refine d_v (fun V' hU => f_plain rfl (s_fieldAddr Try.f122_2 rfl (ev_o rfl rfl))) ?_
  first | refine d_b (s_storew Try.sh120 (ev_o rfl rfl) (ev_o rfl rfl) (accLe A41 _ _ (by rw [View.set_other _ _ hneb]; exact hb1)) hu41 rfl (by first | decide | (simp; done) | (simp; omega)) rfl) rfl _ (View.le_refl _) ?_ | refine d_e (s_storew Try.sh120 (ev_o rfl rfl) (ev_o rfl rfl) (accLe A41 _ _ (by rw [View.set_other _ _ hneb]; exact hb1)) hu41 rfl (by first | decide | (simp; done) | (simp; omega)) rfl) (by first | exact View.le_refl _ | assumption) ?_
  refine d_nil ?_
  refine a_gen fun W3 hW3 => ?_
  obtain ⟨W4, k1, k2⟩ := accShrink A41 (View.le_self_set n1tb)
  obtain ⟨nbt, M4⟩ := hF _ _ k2
  have M3 : Mem W3 b n c s t ((V₀.set rb (.row [.v (.map none)])).set bt (.mp (dif s base))) := by rw [hW3]; exact M4.more (View.set_mono k1 _ _)
  obtain ⟨hne2, nbt0⟩ := View.set_none.1 nbt
  have htb : W3 tb = some (.row [mpv bt]) := by rw [hW3, View.set_other _ _ hneb.symm]; exact accLe A41 _ _ (View.set_same _ _ _)
  have hrb : W3 rb = some (.row [.v (.map none)]) := M3.le _ _ (by rw [View.set_other _ _ hne2.symm]; exact View.set_same _ _ _)
  rw [View.set_comm _ _ _ hne2.symm] at M3
  refine a_seq (a_region ?_)
  refine a_v rfl (s_load Try.sh128 (ev_t rfl) htb rfl) ?_
  refine a_s (s_storew Try.sh128 (ev_t rfl) (ev_t rfl) hrb rfl rfl (by first | decide | (simp; done) | (simp; omega)) rfl) ?_
  refine a_v rfl (s_assign ev_c) ?_
  refine a_nil ?_
  refine a_ret ?_
  refine ⟨[_, _], _, ⟨_, _, _, _, _, _, _, _, rfl, Try.sh128, ev_t rfl, View.set_same _ _ _, rfl, _, _, rfl, ev_t rfl, rfl⟩, View.le_refl _, bt, nbt0, rfl, ?_⟩
  exact M3.rest.less (View.le_self_set (by rw [View.set_other _ _ hne2.symm]; exact n0rb))
#print axioms mk_mark
#print axioms mk_pop_none
#print axioms mk_pop
end Go.Proofs
