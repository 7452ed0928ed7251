/- Cells with marks: the test itself. -/
import Derived.Test.YtapelipehckbcaaMkO0
set_option linter.unusedVariables false
set_option linter.unusedSimpArgs false
set_option linter.unnecessarySimpa false
namespace Go.AV
theorem rd3 {x : Nat → AVal} {i : Nat} (h : i < 3) : rdc false 1 [x 0, x 1, x 2] (((i : Nat) : Int).toNat * 1) = some (x i) := by
  have : i = 0 ∨ i = 1 ∨ i = 2 := by omega
  rcases this with rfl | rfl | rfl <;> rfl
end Go.AV
namespace Go.Proofs
open Go.AV
variable {V V₀ : View} {b : Nat} {n : Nat → Nat} {c base : Ce} {ss : List Ce}
theorem mk_marked {p : Nat → Nat} {l : List Act56} (hp : ∀ o, p o < 256) (hl : ∀ a ∈ l, a.ok) (V : View) : ACalls Try.prog 7 [.agg [u8v (p 0), u8v (p 1), u8v (p 2)], .tree 4 (actT l)] V (One (.tuple [iv (cntM l), bv true]) V) := by
  obtain ⟨n, hnp⟩ : ∃ n : Nat → Nat, ∀ o, n o = p o % 6 := ⟨fun o => p o % 6, fun _ => rfl⟩
  have hn : ∀ o, o < 3 → n o ≤ 6 := fun o _ => by rw [hnp]; omega
  have hn5 : ∀ o, n o ≤ 5 := fun o => by rw [hnp]; omega
  refine a_fn (fn := Try.f7) Try.func7 rfl ?_ rfl
  refine a_seq (a_region ?_)
  refine a_vp rfl (s_box (ev_t rfl) rfl) fun xv Vv hx => ?_
  obtain ⟨bp, nbp, rfl, rfl⟩ := hx
  have vbp : V bp = none := by simpa [View.set, ] using nbp
  refine a_v rfl (s_assign ev_c) ?_
  refine a_v rfl (s_assign ev_c) ?_
  refine a_nil ?_
  refine a_seq (a_region ?_)
  refine a_v rfl (s_assign ev_c) ?_
  refine a_nil ?_
  refine a_seq (a_seq (a_region ?_))
  refine a_v rfl (s_load Try.sh31 (ev_t rfl) (by simp [View.set, View.drop, vbp] <;> first | exact ⟨rfl, rfl⟩ | exact rfl) rfl) ?_
  refine a_v rfl (s_move ev_c) ?_
  refine a_nil ?_
  have hz0 : V.le (V.set bp (.row (AVal.agg [u8v (p 0), u8v (p 1), u8v (p 2)]).cells)) := View.le_self_set nbp
  refine a_gen fun W0 hW0 => ?_
  rw [← hW0] at hz0
  clear hW0
  refine a_block ?_
  refine a_loop (fun m st V' => ∃ (i : Nat) (lt : List (Nat × AVal)) (x : AVal), 3 - i = m ∧ i ≤ 3 ∧ st = ⟨lt, 326⟩ ∧ SubT [(1, .tree 4 (actT l)), (6, x), (37, .agg [u8v (p 0), u8v (p 1), u8v (p 2)]), (38, iv i)] lt ∧ Acc V' x 1 i ((nT n).take i) W0) ?_ 3 _ _ ⟨0, _, _, rfl, by omega, rfl, ⟨rfl, rfl, rfl, rfl, trivial⟩, accNil⟩
  rintro m st W1 ⟨i, lt, x, rfl, hi3, rfl, hs, A6⟩
  refine a_forget hs ?_
  refine a_seq (a_region ?_)
  refine a_v rfl (s_cmp (ev_t rfl) ev_c rfl) ?_
  refine a_nil ?_
  refine a_seq (a_cond (ev_t rfl) (fun hc => a_skip ?_) (fun hc => a_exit ?_))
  · have hi' : i < 3 := by simp at hc; omega
    have hpi := hp i
    refine a_seq (a_block ?_)
    refine a_seq (a_region ?_)
    refine a_v rfl (s_index Try.ar31 (ev_t rfl) (ev_t rfl) (by omega) (by omega) (rd3 (x := fun o => u8v (p o)) hi')) ?_
    refine a_v rfl (s_assign (ev_t rfl)) ?_
    refine a_nil ?_
    refine a_region ?_
    refine a_v rfl (s_move (ev_t rfl)) ?_
    refine a_v rfl (s_move (ev_t rfl)) ?_
    refine a_v rfl (s_convw ⟨_, Try.ui5⟩ Try.ui3 (ev_t rfl) (wrap64_id (by omega) (by omega))) ?_
    refine a_v rfl (OpS.cast (congrArg iv (by rw [hnp i]; have := Int.tmod_eq_emod_of_nonneg (a := ((p i : Nat) : Int)) (b := 6) (by omega); omega : _ = ((n i : Nat) : Int))) (s_rem (ev_t rfl) ev_c (by omega))) ?_
    refine a_v rfl (s_litx Try.sl65 Try.z3 rfl rfl (.cons (ev_t rfl) .nil) rfl rfl rfl) ?_
    refine a_vp rfl (s_acc Try.sl65 Try.src65 Try.z3 rfl Try.by3 (ev_t rfl) A6 (src_one (ev_t rfl) rfl rfl) rfl (by omega) (by omega)) fun xv Vv hx => ?_
    have A46 := hx
    refine a_v rfl (s_assign (ev_t rfl)) ?_
    refine a_nil ?_
    repeat first | refine thenA_x ?_ | refine blockA_hit ?_ | refine blockA_x (by decide) ?_
    refine a_region ?_
    refine a_v rfl (s_add (ev_t rfl) ev_c (by omega) (by omega)) ?_
    refine a_v rfl (s_move (ev_t rfl)) ?_
    refine a_nil ?_
    refine ⟨3 - (i + 1), by omega, i + 1, _, _, rfl, by omega, rfl, ⟨rfl, rfl, rfl, rfl, trivial⟩, accCast A46 rfl ?_⟩
    have e : i = 0 ∨ i = 1 ∨ i = 2 := by omega
    rcases e with rfl | rfl | rfl <;> rfl
  repeat first | refine thenA_x ?_ | refine blockA_hit ?_ | refine blockA_x (by decide) ?_
  have hi3' : i = 3 := by simp at hc; omega
  subst hi3'
  refine a_acc_tree (t := 6) (els := nT n) A6 rfl rfl rfl rfl ?_
  refine a_seq (a_region ?_)
  refine a_v rfl (s_move (ev_t rfl)) ?_
  refine a_vp rfl (s_call Try.okM17 ev_f (.cons (ev_t rfl) .nil) (mk_new hn _)) fun xv Vv hx => ?_
  obtain ⟨bm, rfl, M0⟩ := hx; obtain ⟨W2, rfl⟩ : ∃ U, U = Vv := ⟨_, rfl⟩
  refine a_v rfl (s_move (ev_t rfl)) ?_
  refine a_v rfl (s_extract (ev_t rfl) rfl) ?_
  refine a_v rfl (s_extract (ev_t rfl) rfl) ?_
  refine a_v rfl (s_assign (ev_t rfl)) ?_
  refine a_v rfl (s_assign (ev_t rfl)) ?_
  refine a_nil ?_
  refine a_seq (a_seq (a_region ?_))
  refine a_v rfl (s_move (ev_t rfl)) ?_
  refine a_v rfl (s_cmp (ev_t rfl) ev_c rfl) ?_
  refine a_v rfl (s_move (ev_t rfl)) ?_
  refine a_vg (gk rfl rfl (ev_t rfl) rfl) rfl (s_move (ev_t rfl)) ?_
  refine a_vg (gk rfl rfl (ev_t rfl) rfl) rfl (s_pnil Try.up66 (ev_t rfl) (.inl ⟨rfl, rfl⟩)) ?_
  refine a_v rfl (s_pick (x := .v (.bool _)) (ev_t rfl) (fun hx => (by exact absurd hx (by first | (simp; done) | (simp []; done) | (simp [*]; done)))) (fun _ => (ev_t rfl))) ?_
  refine a_nil ?_
  refine a_cond (ev_t rfl) (fun hc => ?_) (fun hc => a_skip ?_)
  · cases hc
  repeat first | refine thenA_x ?_ | refine blockA_hit ?_ | refine blockA_x (by decide) ?_
  refine a_seq (a_region ?_)
  refine a_vp rfl (s_alloc Try.z70) fun xv Vv hx => ?_
  obtain ⟨bn, nbn, rfl, rfl⟩ := hx
  have vbn : W2 bn = none := by simpa [View.set, ] using nbn
  refine a_nil ?_
  have M1 := M0.new (.row (arrV Ce0)) nbn
  refine a_gen fun W3 hW3 => ?_
  have hW3' : W3 = W2.set bn (.row (arrV Ce0)) := hW3
  rw [← hW3'] at M1
  have hbn0 : (W0.set bn (.row (arrV Ce0))) bn = some (.row (arrV Ce0)) := View.set_same _ _ _
  have n0bn : W0 bn = none := View.le_none M0.le nbn
  have hle0 : V.le (W0.set bn (.row (arrV Ce0))) := View.le_trans hz0 (View.le_self_set n0bn)
  have hVbn : V bn = none := View.le_none hz0 n0bn
  clear hW3 hW3' nbn M0 A6
  refine a_seq (a_region ?_)
  refine a_v rfl (s_assign ev_c) ?_
  refine a_nil ?_
  refine a_seq (a_region ?_)
  refine a_v rfl (s_assign ev_f) ?_
  refine a_nil ?_
  refine a_seq (a_seq (a_region ?_))
  refine a_v rfl (s_assign ev_c) ?_
  refine a_nil ?_
  refine a_block ?_
  refine a_loop (fun m st V' => ∃ (j : Nat) (lt : List (Nat × AVal)) (x : AVal) (now : Ce) (ss : List Ce) (V₁ V₂ : View), 40 - j = m ∧ j ≤ 40 ∧ j ≤ l.length ∧ st = ⟨lt, 326⟩ ∧ SubT [(1, .tree 4 (actT l)), (6, .tree 1 (nT n)), (9, pt bm 0), (11, pt bn 0), (12, x), (13, .v (.func (.func 18) #[] #[])), (14, iv j)] lt ∧
    Mem V' bm n now now ss V₁ ∧ Acc V₁ x 18 ss.length (snaps ss) V₂ ∧ V₂ bn = some (.row (arrV now)) ∧ V.le V₂ ∧ Zr n now ∧ (∀ s ∈ ss, Zr n s) ∧ ss.length ≤ j ∧ ss.length = (l.take j).foldl stepM 0) ?_ 40 _ _ ⟨0, _, _, Ce0, [], _, _, rfl, by omega, by omega, rfl, ⟨rfl, rfl, rfl, rfl, rfl, rfl, rfl, trivial⟩, M1, accNil, hbn0, hle0, Zr0 n, (fun s hs => by cases hs), by simp, rfl⟩
  rintro m st W4 ⟨j, lt, x, now, ss, V₁, V₂, rfl, hj40, hjl0, rfl, hs, M, A, hbn, hVl, hz, hzs, hsj, hcnt⟩
  refine a_forget hs ?_
  clear M1 hbn0 hle0
  refine a_seq (a_seq (a_region ?_))
  refine a_v rfl (s_move (ev_t rfl)) ?_
  refine a_v rfl (s_move (ev_t rfl)) ?_
  refine a_v rfl (s_lent Try.us32 (ev_t rfl)) ?_
  refine a_v rfl (s_cmp (ev_t rfl) (ev_t rfl) rfl) ?_
  refine a_v rfl (s_move (ev_t rfl)) ?_
  refine a_f rfl (f_guard rfl (gd_b rfl (ev_t rfl)) fun h4 => s_move (ev_t rfl)) ?_
  refine a_f rfl (f_guard rfl (gd_b rfl (ev_t rfl)) fun h4 => s_cmp (ev_cond (ev_t rfl) h4) ev_c rfl) ?_
  refine a_v rfl (s_pickand (ev_t rfl) (ev_t rfl)) ?_
  refine a_nil ?_
  refine a_cond (ev_t rfl) (fun hc => a_skip ?_) (fun hc => a_exit ?_)
  rotate_left
  · repeat first | refine thenA_x ?_ | refine blockA_hit ?_ | refine blockA_x (by decide) ?_
    have he : l.take j = l.take 40 := by
      simp [actT_len] at hc
      by_cases h : l.length ≤ j
      · rw [List.take_of_length_le h, List.take_of_length_le (by omega)]
      · have := hc (by omega)
        rw [show j = 40 by omega]
    refine a_seq (a_region ?_)
    refine a_v rfl (s_move (ev_t rfl)) ?_
    refine a_v rfl (s_lenA Try.us71 (ev_t rfl) (rowMono (accRow A) M.le)) ?_
    refine a_v rfl (s_assign (ev_t rfl)) ?_
    refine a_v rfl (s_assign ev_c) ?_
    refine a_nil ?_
    refine a_ret ?_
    exact ⟨[_, _], V, ⟨_, _, rfl, ev_t rfl, _, _, rfl, ev_t rfl, rfl⟩, View.le_trans hVl (View.le_trans (accLe A) M.le), by rw [hcnt, he]; rfl, rfl⟩
  have hjl : j < l.length := by simp [actT_len] at hc; omega
  have hj : j < 40 := by simp [actT_len] at hc; omega
  obtain ⟨a, ha⟩ : ∃ a, a = l[j] := ⟨_, rfl⟩
  have hok : a.ok := by rw [ha]; exact hl _ (List.getElem_mem hjl)
  obtain ⟨ok1, ok2, ok3, ok4, ok5⟩ := hok
  have hstep := cntM_step hjl
  rw [← ha, ← hcnt] at hstep
  refine a_seq (a_block ?_)
  refine a_seq (a_region ?_)
  refine a_v rfl (s_move (ev_t rfl)) ?_
  refine a_v rfl (s_move (ev_t rfl)) ?_
  refine a_v rfl (s_idxt Try.sl32 (ev_t rfl) (ev_t rfl) (by omega) (by rw [ha]; exact actT_get hjl : (actT l)[((j : Nat) : Int).toNat]? = some (actV a))) ?_
  refine a_v rfl (s_loadr Try.sh34 rfl (ev_t rfl) (refA rfl)) ?_
  refine a_vp rfl (s_alloc Try.z34) fun xv Vv hx => ?_
  obtain ⟨ta, nta, rfl, rfl⟩ := hx
  have vta : W4 ta = none := by simpa [View.set, ] using nta
  refine a_s (s_store Try.sh34 (ev_t rfl) (ev_t rfl) (by simp [View.set, View.drop, vta] <;> first | exact ⟨rfl, rfl⟩ | exact rfl) rfl rfl (by first | decide | (simp; done) | (simp; omega))) ?_
  refine a_nil ?_
  have M2 := M.new (.row [u8v a.k, u8v a.o, u8v a.i, .v (.int .i8 a.v)]) nta
  have n1ta : V₁ ta = none := View.le_none M.le nta
  have A2 := A.set (.row [u8v a.k, u8v a.o, u8v a.i, .v (.int .i8 a.v)]) n1ta
  have n2ta : V₂ ta = none := A.none n1ta
  refine a_gen fun W5 hW5 => ?_
  have hW5' : W5 = W4.set ta (.row [u8v a.k, u8v a.o, u8v a.i, .v (.int .i8 a.v)]) := by rw [hW5]; exact View.set_set _ _ _ _
  rw [← hW5'] at M2
  obtain ⟨V₃, hV3⟩ : ∃ U, U = V₂.set ta (.row [u8v a.k, u8v a.o, u8v a.i, .v (.int .i8 a.v)]) := ⟨_, rfl⟩
  rw [← hV3] at A2
  obtain ⟨U₁, hU1⟩ : ∃ U, U = V₁.set ta (.row [u8v a.k, u8v a.o, u8v a.i, .v (.int .i8 a.v)]) := ⟨_, rfl⟩
  rw [← hU1] at M2 A2
  clear hU1
  have hta : V₃ ta = some (.row [u8v a.k, u8v a.o, u8v a.i, .v (.int .i8 a.v)]) := by rw [hV3]; exact View.set_same _ _ _
  have hbn3 : V₃ bn = some (.row (arrV now)) := by rw [hV3, View.set_other _ _ (View.ne_of hbn n2ta)]; exact hbn
  have hVl3 : V.le V₃ := by rw [hV3]; exact View.le_set hVl (View.le_none hVl n2ta)
  have gta := M2.le _ _ (accLe A2 _ _ hta)
  clear hV3 hW5 hW5' M A hbn hVl hcnt
  obtain ⟨k, hk⟩ : ∃ k : Int, k = ((a.o % 5 : Nat) : Int) := ⟨_, rfl⟩
  obtain ⟨i, hi⟩ : ∃ i : Int, i = ((a.i % 7 : Nat) : Int) - 1 := ⟨_, rfl⟩
  refine a_seq (a_draw [false, false, false, false, false, false, false, false, false, false, false] (_) Try.mixed rfl (by kernel_rfl) (View.le_refl _) ?_)
  refine d_v (fun V' hU => f_plain rfl (s_fieldAddr Try.f34_1 rfl (ev_o rfl rfl))) ?_
  refine d_v (fun V' hU => f_plain rfl (s_load Try.sh5 (ev_o rfl rfl) (hU _ _ gta) rfl)) ?_
  refine d_v (fun V' hU => f_plain rfl (s_convw ⟨_, Try.ui5⟩ Try.ui3 (ev_o rfl rfl) (wrap64_id (by omega) (by omega)))) ?_
  refine d_v (fun V' hU => f_plain rfl (OpS.cast (congrArg iv (by have := Int.tmod_eq_emod_of_nonneg (a := ((a.o : Nat) : Int)) (b := 5) (by omega); omega : _ = ((a.o % 5 : Nat) : Int))) (s_rem (ev_o rfl rfl) ev_c (by omega)))) ?_
  refine d_v (fun V' hU => f_plain rfl (s_fieldAddr Try.f34_2 rfl (ev_o rfl rfl))) ?_
  refine d_v (fun V' hU => f_plain rfl (s_load Try.sh5 (ev_o rfl rfl) (hU _ _ gta) rfl)) ?_
  refine d_v (fun V' hU => f_plain rfl (s_convw ⟨_, Try.ui5⟩ Try.ui3 (ev_o rfl rfl) (wrap64_id (by omega) (by omega)))) ?_
  refine d_v (fun V' hU => f_plain rfl (OpS.cast (congrArg iv (by have := Int.tmod_eq_emod_of_nonneg (a := ((a.i : Nat) : Int)) (b := 7) (by omega); omega : _ = ((a.i % 7 : Nat) : Int))) (s_rem (ev_o rfl rfl) ev_c (by omega)))) ?_
  refine d_v (fun V' hU => f_plain rfl (s_sub (ev_o rfl rfl) ev_c (by omega) (by omega))) ?_
  refine d_v (fun V' hU => f_plain rfl (s_assign (ev_o rfl rfl))) ?_
  refine d_v (fun V' hU => f_plain rfl (s_assign (ev_o rfl rfl))) ?_
  refine d_nil ?_
  rw [← hk, ← hi]
  refine a_seq (a_region ?_)
  refine a_v rfl (s_assign ev_c) ?_
  refine a_nil ?_
  refine a_cut (fun st V' => ∃ lt, st = ⟨lt, 326⟩ ∧ SubT [(1, .tree 4 (actT l)), (6, .tree 1 (nT n)), (9, pt bm 0), (11, pt bn 0), (12, x), (13, .v (.func (.func 18) #[] #[])), (14, iv j), (15, pt ta 0), (16, iv k), (17, iv i), (18, iv (errR n k i))] lt ∧ W5 = V') ?_ ?_
  · refine a_block ?_
    refine a_seq (a_region ?_)
    refine a_v rfl (s_move (ev_t rfl)) ?_
    refine a_v rfl (s_cmp (ev_t rfl) ev_c rfl) ?_
    refine a_v rfl (s_move (ev_t rfl)) ?_
    refine a_f rfl (f_guard rfl (gd_b rfl (ev_t rfl)) fun h2 => s_move (ev_t rfl)) ?_
    refine a_f rfl (f_guard rfl (gd_b rfl (ev_t rfl)) fun h2 => s_cmp (ev_cond (ev_t rfl) h2) ev_c rfl) ?_
    refine a_v rfl (s_pickor (ev_t rfl) (ev_t rfl)) ?_
    refine a_v rfl (s_assign (ev_t rfl)) ?_
    refine a_nil ?_
    refine a_cond (ev_t rfl) (fun hc => ?_) (fun hc => ?_)
    · have hbad : k < 1 ∨ 3 < k := by simp at hc; omega
      refine a_region ?_
      refine a_v rfl (s_assign ev_c) ?_
      refine a_nil ?_
      exact ⟨_, rfl, ⟨rfl, rfl, rfl, rfl, rfl, rfl, rfl, rfl, rfl, rfl, by rw [errR_211 hbad]; rfl, trivial⟩, rfl⟩
    obtain ⟨o, ho', ho⟩ : ∃ o : Nat, k = (o : Int) + 1 ∧ o < 3 := ⟨(k - 1).toNat, by simp at hc; omega, by simp at hc; omega⟩
    have hn5o := hn5 o
    refine a_seq (a_region ?_)
    refine a_v rfl (s_move (ev_t rfl)) ?_
    refine a_v rfl (s_cmp (ev_t rfl) ev_c rfl) ?_
    refine a_v rfl (s_move (ev_t rfl)) ?_
    refine a_f rfl (f_guard rfl (gd_b rfl (ev_t rfl)) fun h2 => s_move (ev_t rfl)) ?_
    refine a_f rfl (f_guard rfl (gd_b rfl (ev_t rfl)) fun h2 => s_move (ev_t rfl)) ?_
    refine a_f rfl (f_guard rfl (gd_b rfl (ev_t rfl)) fun h2 => s_move (ev_t rfl)) ?_
    refine a_f rfl (f_guard rfl (gd_b rfl (ev_t rfl)) fun h2 => s_sub (ev_cond (ev_t rfl) h2) ev_c (by omega) (by omega)) ?_
    refine a_f rfl (f_guard rfl (gd_b rfl (ev_t rfl)) fun h2 => s_idxt Try.sl65 (ev_cond (ev_t rfl) h2) (ev_cond (ev_t rfl) h2) (by omega) (by rw [show k - 1 = ((o : Nat) : Int) by omega]; exact nT_get ho : (nT n)[(k - 1).toNat]? = some (iv (n o)))) ?_
    refine a_f rfl (f_guard rfl (gd_b rfl (ev_t rfl)) fun h2 => s_loadr Try.sh3 rfl (ev_cond (ev_t rfl) h2) (ref1 rfl)) ?_
    refine a_f rfl (f_guard rfl (gd_b rfl (ev_t rfl)) fun h2 => s_cmp (ev_cond (ev_t rfl) h2) (ev_cond (ev_t rfl) h2) rfl) ?_
    refine a_v rfl (s_pickor (ev_t rfl) (ev_t rfl)) ?_
    refine a_v rfl (s_assign (ev_t rfl)) ?_
    refine a_nil ?_
    refine a_cond (ev_t rfl) (fun hc2 => ?_) (fun hc2 => a_skip ?_)
    · have hbad : i < 0 ∨ (n o : Int) ≤ i := by simp at hc2; omega
      refine a_region ?_
      refine a_v rfl (s_assign ev_c) ?_
      refine a_nil ?_
      exact ⟨_, rfl, ⟨rfl, rfl, rfl, rfl, rfl, rfl, rfl, rfl, rfl, rfl, by rw [errR_212 ho' ho hbad]; rfl, trivial⟩, rfl⟩
    have hok0 : ¬ (i < 0 ∨ (n o : Int) ≤ i) := by simp at hc2; omega
    exact ⟨_, rfl, ⟨rfl, rfl, rfl, rfl, rfl, rfl, rfl, rfl, rfl, rfl, by rw [errR_0 (j := i.toNat) ho' ho (by omega) (by omega)]; rfl, trivial⟩, rfl⟩
  rintro st V' ⟨lt, rfl, hs, rfl⟩
  refine a_forget hs ?_
  obtain ⟨e, he⟩ : ∃ e, e = errR n k i := ⟨_, rfl⟩
  rw [← he]
  have hkb : -4611686018427387904 ≤ k ∧ k < 4611686018427387904 := by omega
  refine a_seq (a_seq (a_region ?_))
  refine a_v rfl (s_fieldAddr Try.f34_0 rfl (ev_t rfl)) ?_
  refine a_v rfl (s_load Try.sh5 (ev_t rfl) gta rfl) ?_
  refine a_v rfl (OpS.cast (congrArg (fun z => AVal.v (.int .u8 z)) (by have := Int.tmod_eq_emod_of_nonneg (a := ((a.k : Nat) : Int)) (b := 8) (by omega); omega : _ = ((a.k % 8 : Nat) : Int))) (s_rem (ev_t rfl) ev_c (by omega))) ?_
  refine a_nil ?_
  obtain ⟨kd, hkd⟩ : ∃ q, q = a.k % 8 := ⟨_, rfl⟩
  rw [← hkd]
  have hkd8 : kd < 8 := by omega
  refine a_cut1 (fun st V' => ∃ (lt : List (Nat × AVal)) (x : AVal) (now : Ce) (ss : List Ce) (V₁ V₂ : View), st = ⟨lt, 326⟩ ∧ SubT [(1, .tree 4 (actT l)), (6, .tree 1 (nT n)), (9, pt bm 0), (11, pt bn 0), (12, x), (13, .v (.func (.func 18) #[] #[])), (14, iv j), (16, iv k), (17, iv i), (18, iv e)] lt ∧ Mem V' bm n now now ss V₁ ∧ Acc V₁ x 18 ss.length (snaps ss) V₂ ∧ V₂ bn = some (.row (arrV now)) ∧ V.le V₂ ∧ Zr n now ∧ (∀ s ∈ ss, Zr n s) ∧ ss.length ≤ j + 1 ∧ ss.length = (l.take (j + 1)).foldl stepM 0) ?_ ?_
  · refine a_block ?_
    refine a_seq (a_seq (a_region ?_))
    refine a_v rfl (s_cmp (ev_t rfl) ev_c rfl) ?_
    refine a_v rfl (s_assign (ev_t rfl)) ?_
    refine a_nil ?_
    refine a_cut1 (fun st V' => ∃ (lt : List (Nat × AVal)) (g : Bool), (g = true ↔ kd < 4) ∧ st = ⟨lt, 326⟩ ∧ SubT [(152, bv g), (1, .tree 4 (actT l)), (6, .tree 1 (nT n)), (9, pt bm 0), (11, pt bn 0), (12, x), (13, .v (.func (.func 18) #[] #[])), (14, iv j), (15, pt ta 0), (16, iv k), (17, iv i), (18, iv e), (103, .v (.int .u8 (kd : Int)))] lt ∧ W5 = V') ?_ ?_
    · refine a_cond (ev_t rfl) (fun hc => a_skip ?_) (fun hc => ?_)
      · exact ⟨_, _, ⟨fun _ => by simp at hc; omega, fun _ => hc⟩, rfl, ⟨rfl, rfl, rfl, rfl, rfl, rfl, rfl, rfl, rfl, rfl, rfl, rfl, rfl, trivial⟩, rfl⟩
      refine a_seq (a_region ?_)
      refine a_v rfl (s_cmp (ev_t rfl) ev_c rfl) ?_
      refine a_v rfl (s_assign (ev_t rfl)) ?_
      refine a_nil ?_
      refine a_cond (ev_t rfl) (fun hc1 => a_skip ?_) (fun hc1 => ?_)
      · exact ⟨_, _, ⟨fun _ => by simp at hc1; omega, fun _ => hc1⟩, rfl, ⟨rfl, rfl, rfl, rfl, rfl, rfl, rfl, rfl, rfl, rfl, rfl, rfl, rfl, trivial⟩, rfl⟩
      refine a_seq (a_region ?_)
      refine a_v rfl (s_cmp (ev_t rfl) ev_c rfl) ?_
      refine a_v rfl (s_assign (ev_t rfl)) ?_
      refine a_nil ?_
      refine a_cond (ev_t rfl) (fun hc2 => a_skip ?_) (fun hc2 => ?_)
      · exact ⟨_, _, ⟨fun _ => by simp at hc2; omega, fun _ => hc2⟩, rfl, ⟨rfl, rfl, rfl, rfl, rfl, rfl, rfl, rfl, rfl, rfl, rfl, rfl, rfl, trivial⟩, rfl⟩
      refine a_region ?_
      refine a_v rfl (s_cmp (ev_t rfl) ev_c rfl) ?_
      refine a_v rfl (s_assign (ev_t rfl)) ?_
      refine a_nil ?_
      exact ⟨_, _, ⟨fun h => by simp at h; omega, fun h => by simp at hc hc1 hc2 ⊢; omega⟩, rfl, ⟨rfl, rfl, rfl, rfl, rfl, rfl, rfl, rfl, rfl, rfl, rfl, rfl, rfl, trivial⟩, rfl⟩
    rintro st V' ⟨lt, g, hg, rfl, hs, rfl⟩
    refine a_forget hs ?_
    refine a_cond (ev_t rfl) (fun hc => ?_) (fun hc => ?_)
    · have hk4 : kd < 4 := hg.1 hc
      have hst : (l.take (j + 1)).foldl stepM 0 = ss.length := by rw [hstep]; unfold stepM; rw [if_pos (by omega)]
      by_cases he0 : e = 0
      · have he1 : errR n k i = 0 := he.symm.trans he0
        clear he
        subst he0
        obtain ⟨o, jj, hko, hij, ho, hjn⟩ := errR_ok he1
        have hno := hn o ho
        rw [hko, hij]
        refine a_seq (a_region ?_)
        refine a_v rfl (s_move (ev_t rfl)) ?_
        refine a_v rfl (s_move (ev_t rfl)) ?_
        refine a_v rfl (s_move (ev_t rfl)) ?_
        refine a_v rfl (s_fieldAddr Try.f34_3 rfl (ev_t rfl)) ?_
        refine a_v rfl (s_load Try.sh27 (ev_t rfl) gta rfl) ?_
        refine a_v rfl (s_convw ⟨_, Try.ui27⟩ Try.ui2 (ev_t rfl) (wrap64_id (by omega) (by omega))) ?_
        refine a_vp rfl (s_call Try.okM19 ev_f (.cons (ev_t rfl) (.cons (ev_t rfl) (.cons (ev_t rfl) (.cons (ev_t rfl) .nil)))) (mk_store_ok M2 a.v ho hjn (hn o ho) (by omega))) fun xv Vv hx => ?_
        obtain ⟨rfl, M3⟩ := hx; obtain ⟨W6, rfl⟩ : ∃ U, U = Vv := ⟨_, rfl⟩
        refine a_v rfl (s_move (ev_t rfl)) ?_
        refine a_v rfl (s_extract (ev_t rfl) rfl) ?_
        refine a_v rfl (s_extract (ev_t rfl) rfl) ?_
        refine a_v rfl (s_assign (ev_t rfl)) ?_
        refine a_v rfl (s_assign (ev_t rfl)) ?_
        refine a_nil ?_
        have gbn := M3.le _ _ (accLe A2 _ _ hbn3)
        refine a_seq (a_seq (a_region ?_))
        refine a_v rfl (s_move (ev_t rfl)) ?_
        refine a_v rfl (s_move (ev_t rfl)) ?_
        refine a_v rfl (s_cmp (ev_t rfl) (ev_t rfl) rfl) ?_
        refine a_v rfl (s_move (ev_t rfl)) ?_
        refine a_vg (gk rfl rfl (ev_t rfl) rfl) rfl (s_move (ev_t rfl)) ?_
        refine a_vg (gk rfl rfl (ev_t rfl) rfl) rfl (s_cmp (ev_t rfl) ev_c rfl) ?_
        refine a_vg (gk rfl rfl (ev_t rfl) rfl) rfl (s_move (ev_t rfl)) ?_
        refine a_vg (gk rfl rfl (ev_t rfl) rfl) rfl (s_move (ev_t rfl)) ?_
        refine a_vg (gk rfl rfl (ev_t rfl) rfl) rfl (s_move (ev_t rfl)) ?_
        refine a_vg (gk rfl rfl (ev_t rfl) rfl) rfl (s_sub (ev_t rfl) ev_c (by omega) (by omega)) ?_
        refine a_vg (gk rfl rfl (ev_t rfl) rfl) rfl (s_move (ev_t rfl)) ?_
        refine a_vg (gk rfl rfl (ev_t rfl) rfl) rfl (s_idxa Try.ar70 (ev_t rfl) (ev_t rfl) (by omega) (by omega)) ?_
        refine a_vg (gk rfl rfl (ev_t rfl) rfl) rfl (s_idxa Try.ar69 (ev_t rfl) (ev_t rfl) (by omega) (by omega)) ?_
        refine a_vg (gk rfl rfl (ev_t rfl) rfl) rfl (s_load Try.sh2 (ev_t rfl) gbn (rdArr now ho (by omega) _ _ (by omega) rfl)) ?_
        refine a_vg (gk rfl rfl (ev_t rfl) rfl) rfl (s_cmp (ev_t rfl) (ev_t rfl) rfl) ?_
        refine a_vg (gk rfl rfl (ev_t rfl) rfl) rfl (s_pick (x := .v (.bool _)) (ev_t rfl) (fun _ => (ev_t rfl)) (fun hx => (by exact absurd hx (by first | (simp; done) | (simp []; done) | (simp [*]; done))))) ?_
        refine a_v rfl (s_pick (x := .v (.bool _)) (ev_t rfl) (fun hx => (by exact absurd hx (by first | (simp; done) | (simp []; done) | (simp [*]; done)))) (fun _ => (ev_t rfl))) ?_
        refine a_v rfl (s_move (ev_t rfl)) ?_
        refine a_vg (gk rfl rfl (ev_t rfl) (by simp)) rfl (s_move (ev_t rfl)) ?_
        refine a_vg (gk rfl rfl (ev_t rfl) (by simp)) rfl (s_cmp (ev_t rfl) ev_c rfl) ?_
        refine a_vg (gk rfl rfl (ev_t rfl) (by simp)) rfl (s_move (ev_t rfl)) ?_
        refine a_no (gn rfl rfl (ev_t rfl) (by decide)) rfl ?_
        refine a_no (gn rfl rfl (ev_t rfl) (by decide)) rfl ?_
        refine a_vg (gk rfl rfl (ev_t rfl) (by simp)) rfl (s_pick (x := bv false) (ev_t rfl) (fun hx => absurd hx (by decide)) (fun _ => ev_c)) ?_
        refine a_v rfl (s_pick (x := .v (.bool _)) (ev_t rfl) (fun hx => (by exact absurd hx (by first | (simp; done) | (simp []; done) | (simp [*]; done)))) (fun _ => (ev_t rfl))) ?_
        refine a_nil ?_
        refine a_cond (ev_t rfl) (fun hc5 => ?_) (fun hc5 => a_skip ?_)
        · exfalso; simp at hc5
        refine a_seq (a_region ?_)
        refine a_v rfl (s_move (ev_t rfl)) ?_
        refine a_v rfl (s_cmp (ev_t rfl) ev_c rfl) ?_
        refine a_nil ?_
        refine a_cond (ev_t rfl) (fun hc6 => ?_) (fun hc6 => ?_)
        rotate_left
        · exfalso; simp at hc6
        refine a_draw [false, false, false, false, false, false, false, false, true] (_) Try.mixed rfl (by kernel_rfl) (View.le_refl _) ?_
        refine d_v (fun V' hU => f_plain rfl (s_move (ev_o rfl rfl))) ?_
        refine d_v (fun V' hU => f_plain rfl (s_sub (ev_o rfl rfl) ev_c (by omega) (by omega))) ?_
        refine d_v (fun V' hU => f_plain rfl (s_move (ev_o rfl rfl))) ?_
        refine d_v (fun V' hU => f_plain rfl (s_fieldAddr Try.f34_3 rfl (ev_o rfl rfl))) ?_
        refine d_v (fun V' hU => f_plain rfl (s_load Try.sh27 (ev_o rfl rfl) (hU _ _ (M3.le _ _ (accLe A2 _ _ hta))) rfl)) ?_
        refine d_v (fun V' hU => f_plain rfl (s_convw ⟨_, Try.ui27⟩ Try.ui2 (ev_o rfl rfl) (wrap64_id (by omega) (by omega)))) ?_
        refine d_v (fun V' hU => f_plain rfl (s_idxa Try.ar70 (ev_o rfl rfl) (ev_o rfl rfl) (by omega) (by omega))) ?_
        refine d_v (fun V' hU => f_plain rfl (s_idxa Try.ar69 (ev_o rfl rfl) (ev_o rfl rfl) (by omega) (by omega))) ?_
        first | refine d_b (s_storew Try.sh2 (ev_o rfl rfl) (ev_o rfl rfl) gbn rfl rfl (by rw [arrV_len]; omega) (wrArr now ho (by omega) a.v _ _ (by omega) rfl)) rfl _ (View.le_refl _) ?_ | refine d_e (s_storew Try.sh2 (ev_o rfl rfl) (ev_o rfl rfl) gbn rfl rfl (by rw [arrV_len]; omega) (wrArr now ho (by omega) a.v _ _ (by omega) rfl)) (by first | exact View.le_refl _ | assumption) ?_
        refine d_nil ?_
        refine ⟨_, _, now.upd o jj a.v, ss, _, _, rfl, ⟨rfl, rfl, rfl, rfl, rfl, rfl, rfl, rfl, rfl, rfl, trivial⟩, M3.upd (accLe A2 _ _ hbn3), accUpd' A2 bn _ hbn3, View.set_same _ _ _, View.le_set hVl3 hVbn, hz.upd hjn _, hzs, by omega, hst.symm⟩
      · obtain ⟨bc, cap, X, xm, O⟩ := M2.open
        have hE : (loadR n now k i).2 = e := by rw [loadR_err n now Ce0]; exact he.symm
        have hbad : (loadR n now k i).2 ≠ 0 := by rw [hE]; exact he0
        have hSt := mk_store_bad O k i a.v hkb hbad
        rw [hE] at hSt
        refine a_seq (a_region ?_)
        refine a_v rfl (s_move (ev_t rfl)) ?_
        refine a_v rfl (s_move (ev_t rfl)) ?_
        refine a_v rfl (s_move (ev_t rfl)) ?_
        refine a_v rfl (s_fieldAddr Try.f34_3 rfl (ev_t rfl)) ?_
        refine a_v rfl (s_load Try.sh27 (ev_t rfl) gta rfl) ?_
        refine a_v rfl (s_convw ⟨_, Try.ui27⟩ Try.ui2 (ev_t rfl) (wrap64_id (by omega) (by omega))) ?_
        refine a_v rfl (s_call Try.okM19 ev_f (.cons (ev_t rfl) (.cons (ev_t rfl) (.cons (ev_t rfl) (.cons (ev_t rfl) .nil)))) (hSt)) ?_
        refine a_v rfl (s_move (ev_t rfl)) ?_
        refine a_v rfl (s_extract (ev_t rfl) rfl) ?_
        refine a_v rfl (s_extract (ev_t rfl) rfl) ?_
        refine a_v rfl (s_assign (ev_t rfl)) ?_
        refine a_v rfl (s_assign (ev_t rfl)) ?_
        refine a_nil ?_
        refine a_seq (a_seq (a_region ?_))
        refine a_v rfl (s_move (ev_t rfl)) ?_
        refine a_v rfl (s_move (ev_t rfl)) ?_
        refine a_v rfl (s_cmp (ev_t rfl) (ev_t rfl) rfl) ?_
        refine a_v rfl (s_move (ev_t rfl)) ?_
        refine a_vg (gk rfl rfl (ev_t rfl) (by simp)) rfl (s_move (ev_t rfl)) ?_
        refine a_vg (gk rfl rfl (ev_t rfl) (by simp)) rfl (s_cmp (ev_t rfl) ev_c rfl) ?_
        refine a_vg (gk rfl rfl (ev_t rfl) (by simp)) rfl (s_move (ev_t rfl)) ?_
        refine a_no (gn rfl rfl (ev_t rfl) (by simp [he0])) rfl ?_
        refine a_no (gn rfl rfl (ev_t rfl) (by simp [he0])) rfl ?_
        refine a_no (gn rfl rfl (ev_t rfl) (by simp [he0])) rfl ?_
        refine a_no (gn rfl rfl (ev_t rfl) (by simp [he0])) rfl ?_
        refine a_no (gn rfl rfl (ev_t rfl) (by simp [he0])) rfl ?_
        refine a_no (gn rfl rfl (ev_t rfl) (by simp [he0])) rfl ?_
        refine a_no (gn rfl rfl (ev_t rfl) (by simp [he0])) rfl ?_
        refine a_no (gn rfl rfl (ev_t rfl) (by simp [he0])) rfl ?_
        refine a_vg (gk rfl rfl (ev_t rfl) (by simp)) rfl (s_pick (x := bv false) (ev_t rfl) (fun hx => absurd hx (by simp [he0])) (fun _ => ev_c)) ?_
        refine a_v rfl (s_pick (x := .v (.bool _)) (ev_t rfl) (fun hx => (by exact absurd hx (by first | (simp; done) | (simp []; done) | (simp [*]; done)))) (fun _ => (ev_t rfl))) ?_
        refine a_v rfl (s_move (ev_t rfl)) ?_
        refine a_vg (gk rfl rfl (ev_t rfl) (by simp [he0])) rfl (s_move (ev_t rfl)) ?_
        refine a_vg (gk rfl rfl (ev_t rfl) (by simp [he0])) rfl (s_cmp (ev_t rfl) ev_c rfl) ?_
        refine a_vg (gk rfl rfl (ev_t rfl) (by simp [he0])) rfl (s_move (ev_t rfl)) ?_
        refine a_vg (gk rfl rfl (ev_t rfl) (by simp [he0])) rfl (s_move (ev_t rfl)) ?_
        refine a_vg (gk rfl rfl (ev_t rfl) (by simp [he0])) rfl (s_cmp (ev_t rfl) ev_c rfl) ?_
        refine a_vg (gk rfl rfl (ev_t rfl) (by simp [he0])) rfl (s_pick (x := .v (.bool _)) (ev_t rfl) (fun _ => (ev_t rfl)) (fun hx => (by exact absurd hx (by first | (simp; done) | (simp [he0]; done) | (simp [*]; done))))) ?_
        refine a_v rfl (s_pick (x := .v (.bool _)) (ev_t rfl) (fun hx => (by exact absurd hx (by first | (simp; done) | (simp []; done) | (simp [*]; done)))) (fun _ => (ev_t rfl))) ?_
        refine a_nil ?_
        refine a_cond (ev_t rfl) (fun hc5 => ?_) (fun hc5 => a_skip ?_)
        · exfalso; simp [he0] at hc5
        refine a_seq (a_region ?_)
        refine a_v rfl (s_move (ev_t rfl)) ?_
        refine a_v rfl (s_cmp (ev_t rfl) ev_c rfl) ?_
        refine a_nil ?_
        refine a_cond (ev_t rfl) (fun hc6 => ?_) (fun hc6 => a_skip ?_)
        · exfalso; simp [he0] at hc6
        refine ⟨_, _, now, ss, _, _, rfl, ⟨rfl, rfl, rfl, rfl, rfl, rfl, rfl, rfl, rfl, rfl, trivial⟩, M2, A2, hbn3, hVl3, hz, hzs, by omega, hst.symm⟩
    have hk4 : ¬ kd < 4 := fun h => by rw [hg.2 h] at hc; cases hc
    refine a_seq (a_seq (a_region ?_))
    refine a_v rfl (s_cmp (ev_t rfl) ev_c rfl) ?_
    refine a_v rfl (s_assign (ev_t rfl)) ?_
    refine a_nil ?_
    refine a_cut1 (fun st V' => ∃ (lt : List (Nat × AVal)) (g : Bool), (g = true ↔ kd < 6) ∧ st = ⟨lt, 326⟩ ∧ SubT [(202, bv g), (1, .tree 4 (actT l)), (6, .tree 1 (nT n)), (9, pt bm 0), (11, pt bn 0), (12, x), (13, .v (.func (.func 18) #[] #[])), (14, iv j), (15, pt ta 0), (16, iv k), (17, iv i), (18, iv e)] lt ∧ W5 = V') ?_ ?_
    · refine a_cond (ev_t rfl) (fun hc => a_skip ?_) (fun hc => ?_)
      · exact ⟨_, _, ⟨fun _ => by simp at hc; omega, fun _ => hc⟩, rfl, ⟨rfl, rfl, rfl, rfl, rfl, rfl, rfl, rfl, rfl, rfl, rfl, rfl, trivial⟩, rfl⟩
      refine a_region ?_
      refine a_v rfl (s_cmp (ev_t rfl) ev_c rfl) ?_
      refine a_v rfl (s_assign (ev_t rfl)) ?_
      refine a_nil ?_
      exact ⟨_, _, ⟨fun h => by simp at h; omega, fun h => by simp at hc ⊢; omega⟩, rfl, ⟨rfl, rfl, rfl, rfl, rfl, rfl, rfl, rfl, rfl, rfl, rfl, rfl, trivial⟩, rfl⟩
    rintro st V' ⟨lt, g2, hg2, rfl, hs, rfl⟩
    refine a_forget hs ?_
    refine a_cond (ev_t rfl) (fun hc => ?_) (fun hc => ?_)
    · have hk6 : kd < 6 := hg2.1 hc
      have hst : (l.take (j + 1)).foldl stepM 0 = ss.length + 1 := by rw [hstep]; unfold stepM; rw [if_neg (by omega), if_pos (by omega)]
      have gbn := M2.le _ _ (accLe A2 _ _ hbn3)
      obtain ⟨V₄, S1, S2⟩ := memSwap M2 A2
      refine a_seq (a_region ?_)
      refine a_v rfl (s_move (ev_t rfl)) ?_
      refine a_v rfl (s_load Try.sh70 (ev_t rfl) gbn (rfl : rdc true 18 (arrV now) 0 = some (.agg (arrV now)))) ?_
      refine a_v rfl (s_litx Try.sl71 Try.z70 rfl rfl (.cons (ev_t rfl) .nil) rfl rfl rfl) ?_
      refine a_vp rfl (s_acc Try.sl71 Try.src71 Try.z70 rfl Try.by70 (ev_t rfl) S1 (src_one (x := .agg (arrV now)) (ev_t rfl) rfl rfl) rfl (by omega) (by omega)) fun xv Vv hx => ?_
      have A208 := hx
      refine a_v rfl (s_assign (ev_t rfl)) ?_
      refine a_nil ?_
      obtain ⟨V₅, V₆, M4, A4, hl6⟩ := memBack A208 S2
      refine a_seq (a_region ?_)
      refine a_v rfl (s_move (ev_t rfl)) ?_
      refine a_vp rfl (s_call Try.okM20 ev_f (.cons (ev_t rfl) .nil) (mk_mark M4 (by omega))) fun xv Vv hx => ?_
      obtain ⟨rfl, M5⟩ := hx; obtain ⟨W6, rfl⟩ : ∃ U, U = Vv := ⟨_, rfl⟩
      refine a_v rfl (s_move (ev_t rfl)) ?_
      refine a_v rfl (s_extract (ev_t rfl) rfl) ?_
      refine a_v rfl (s_extract (ev_t rfl) rfl) ?_
      refine a_v rfl (s_assign (ev_t rfl)) ?_
      refine a_v rfl (s_assign (ev_t rfl)) ?_
      refine a_nil ?_
      refine a_seq (a_region ?_)
      refine a_v rfl (s_move (ev_t rfl)) ?_
      refine a_v rfl (s_move (ev_t rfl)) ?_
      refine a_v rfl (s_lenA Try.us71 (ev_t rfl) (rowMono (accRow A4) M5.le)) ?_
      refine a_v rfl (s_cmp (ev_t rfl) (ev_t rfl) rfl) ?_
      refine a_v rfl (s_move (ev_t rfl)) ?_
      refine a_vg (gk rfl rfl (ev_t rfl) (by simp)) rfl (s_move (ev_t rfl)) ?_
      refine a_vg (gk rfl rfl (ev_t rfl) (by simp)) rfl (s_cmp (ev_t rfl) ev_c rfl) ?_
      refine a_v rfl (s_pick (x := .v (.bool _)) (ev_t rfl) (fun hx => (by exact absurd hx (by first | (simp; done) | (simp []; done) | (simp [*]; done)))) (fun _ => (ev_t rfl))) ?_
      refine a_nil ?_
      refine a_cond (ev_t rfl) (fun hc5 => ?_) (fun hc5 => a_skip ?_)
      · exfalso; simp at hc5
      refine ⟨_, _, now, now :: ss, _, _, rfl, ⟨rfl, rfl, rfl, rfl, rfl, rfl, rfl, rfl, rfl, rfl, trivial⟩, M5, accCast A4 (by simp) (by rw [snaps_cons]; rfl), hl6 _ _ hbn3, View.le_trans hVl3 hl6, hz, (fun s hs => by rcases List.mem_cons.1 hs with rfl | hs; exact hz; exact hzs s hs), (by simp; omega), (by rw [hst]; rfl)⟩
    have hk6 : ¬ kd < 6 := fun h => by rw [hg2.2 h] at hc; cases hc
    have hst : (l.take (j + 1)).foldl stepM 0 = ss.length - 1 := by rw [hstep]; unfold stepM; rw [if_neg (by omega), if_neg (by omega)]
    refine a_seq (a_region ?_)
    refine a_v rfl (s_fieldAddr Try.f34_0 rfl (ev_t rfl)) ?_
    refine a_v rfl (s_load Try.sh5 (ev_t rfl) gta rfl) ?_
    refine a_v rfl (OpS.cast (congrArg (fun z => AVal.v (.int .u8 z)) (by have := Int.tmod_eq_emod_of_nonneg (a := ((a.k : Nat) : Int)) (b := 8) (by omega); omega : _ = ((a.k % 8 : Nat) : Int))) (s_rem (ev_t rfl) ev_c (by omega))) ?_
    refine a_v rfl (s_cmp (ev_t rfl) ev_c rfl) ?_
    refine a_v rfl (s_assign (ev_t rfl)) ?_
    refine a_nil ?_
    refine a_seq (a_region ?_)
    refine a_v rfl (s_assign ev_c) ?_
    refine a_nil ?_
    refine a_seq (a_region ?_)
    refine a_v rfl (s_assign ev_c) ?_
    refine a_nil ?_
    obtain ⟨g6, hg6⟩ : ∃ g : Bool, g = (((a.k % 8 : Nat) : Int) == 6) := ⟨_, rfl⟩
    rw [← hg6]
    match ss, M2, A2, hzs, hsj, hst with
    | [], M2, A2, hzs, hsj, hst =>
      refine a_seq (a_seq (a_region ?_))
      refine a_v rfl (s_move (ev_t rfl)) ?_
      refine a_nil ?_
      refine a_cut1 (fun st V' => ∃ lt, st = ⟨lt, 326⟩ ∧ SubT [(1, .tree 4 (actT l)), (6, .tree 1 (nT n)), (9, pt bm 0), (11, pt bn 0), (12, x), (13, .v (.func (.func 18) #[] #[])), (14, iv j), (16, iv k), (17, iv i), (18, iv e), (24, iv 0), (25, iv 213)] lt ∧ W5 = V') ?_ ?_
      · refine a_cond (ev_t rfl) (fun hc5 => ?_) (fun hc5 => ?_)
        · skip
          refine a_region ?_
          refine a_v rfl (s_move (ev_t rfl)) ?_
          refine a_vp rfl (s_call Try.okM21 ev_f (.cons (ev_t rfl) .nil) (mk_back_none M2)) fun xv Vv hx => ?_
          obtain ⟨rfl, hVV⟩ := hx; have hVV := hVV.symm; subst hVV
          refine a_v rfl (s_move (ev_t rfl)) ?_
          refine a_v rfl (s_extract (ev_t rfl) rfl) ?_
          refine a_v rfl (s_extract (ev_t rfl) rfl) ?_
          refine a_v rfl (s_assign (ev_t rfl)) ?_
          refine a_v rfl (s_assign (ev_t rfl)) ?_
          refine a_nil ?_
          exact ⟨_, rfl, ⟨rfl, rfl, rfl, rfl, rfl, rfl, rfl, rfl, rfl, rfl, rfl, rfl, trivial⟩, rfl⟩
        · skip
          refine a_region ?_
          refine a_v rfl (s_move (ev_t rfl)) ?_
          refine a_vp rfl (s_call Try.okM22 ev_f (.cons (ev_t rfl) .nil) (mk_keep_none M2)) fun xv Vv hx => ?_
          obtain ⟨rfl, hVV⟩ := hx; have hVV := hVV.symm; subst hVV
          refine a_v rfl (s_move (ev_t rfl)) ?_
          refine a_v rfl (s_extract (ev_t rfl) rfl) ?_
          refine a_v rfl (s_extract (ev_t rfl) rfl) ?_
          refine a_v rfl (s_assign (ev_t rfl)) ?_
          refine a_v rfl (s_assign (ev_t rfl)) ?_
          refine a_nil ?_
          exact ⟨_, rfl, ⟨rfl, rfl, rfl, rfl, rfl, rfl, rfl, rfl, rfl, rfl, rfl, rfl, trivial⟩, rfl⟩
      rintro st V' ⟨lt, rfl, hs, rfl⟩
      refine a_forget hs ?_
      refine a_seq (a_seq (a_region ?_))
      refine a_v rfl (s_move (ev_t rfl)) ?_
      refine a_v rfl (s_lenA Try.us71 (ev_t rfl) (rowMono (accRow A2) M2.le)) ?_
      refine a_v rfl (s_cmp (ev_t rfl) ev_c rfl) ?_
      refine a_nil ?_
      refine a_cond (ev_t rfl) (fun hc5 => ?_) (fun hc5 => ?_)
      rotate_left
      · exfalso; simp at hc5
      refine a_seq (a_seq (a_region ?_))
      refine a_v rfl (s_move (ev_t rfl)) ?_
      refine a_v rfl (s_cmp (ev_t rfl) ev_c rfl) ?_
      refine a_v rfl (s_move (ev_t rfl)) ?_
      refine a_vg (gk rfl rfl (ev_t rfl) rfl) rfl (s_move (ev_t rfl)) ?_
      refine a_vg (gk rfl rfl (ev_t rfl) rfl) rfl (s_cmp (ev_t rfl) ev_c rfl) ?_
      refine a_v rfl (s_pick (x := .v (.bool _)) (ev_t rfl) (fun hx => (by exact absurd hx (by first | (simp; done) | (simp []; done) | (simp [*]; done)))) (fun _ => (ev_t rfl))) ?_
      refine a_nil ?_
      refine a_cond (ev_t rfl) (fun hc7 => ?_) (fun hc7 => a_skip ?_)
      · exfalso; simp at hc7
      refine a_exit ?_
      repeat first | refine thenA_x ?_ | refine blockA_hit ?_ | refine blockA_x (by decide) ?_
      refine ⟨_, _, now, [], _, _, rfl, ⟨rfl, rfl, rfl, rfl, rfl, rfl, rfl, rfl, rfl, rfl, trivial⟩, M2, A2, hbn3, hVl3, hz, hzs, (by simp), (by rw [hst]; rfl)⟩
    | s :: t, M2, A2, hzs, hsj, hst =>
      have hzs1 := hzs s (by simp)
      have htl : t.length < 40 := by simp at hsj; omega
      refine a_seq (a_seq (a_region ?_))
      refine a_v rfl (s_move (ev_t rfl)) ?_
      refine a_nil ?_
      refine a_cut1 (fun st V' => ∃ (lt : List (Nat × AVal)) (now' : Ce), (now' = if g6 = true then s else now) ∧ st = ⟨lt, 326⟩ ∧ SubT [(1, .tree 4 (actT l)), (6, .tree 1 (nT n)), (9, pt bm 0), (11, pt bn 0), (12, x), (13, .v (.func (.func 18) #[] #[])), (14, iv j), (16, iv k), (17, iv i), (18, iv e), (23, bv g6), (24, iv (dif s now).length), (25, iv 0)] lt ∧ Mem V' bm n now' now' t U₁) ?_ ?_
      · refine a_cond (ev_t rfl) (fun hc5 => ?_) (fun hc5 => ?_)
        · skip
          refine a_region ?_
          refine a_v rfl (s_move (ev_t rfl)) ?_
          refine a_vp rfl (s_call Try.okM21 ev_f (.cons (ev_t rfl) .nil) (mk_back M2 (by omega) hn hz hzs1)) fun xv Vv hx => ?_
          obtain ⟨rfl, M3⟩ := hx
          refine a_v rfl (s_move (ev_t rfl)) ?_
          refine a_v rfl (s_extract (ev_t rfl) rfl) ?_
          refine a_v rfl (s_extract (ev_t rfl) rfl) ?_
          refine a_v rfl (s_assign (ev_t rfl)) ?_
          refine a_v rfl (s_assign (ev_t rfl)) ?_
          refine a_nil ?_
          exact ⟨_, _, by rw [if_pos hc5], rfl, ⟨rfl, rfl, rfl, rfl, rfl, rfl, rfl, rfl, rfl, rfl, rfl, rfl, rfl, trivial⟩, M3⟩
        · skip
          refine a_region ?_
          refine a_v rfl (s_move (ev_t rfl)) ?_
          refine a_vp rfl (s_call Try.okM22 ev_f (.cons (ev_t rfl) .nil) (mk_keep M2 (by omega) hn hz hzs1)) fun xv Vv hx => ?_
          obtain ⟨rfl, M3⟩ := hx
          refine a_v rfl (s_move (ev_t rfl)) ?_
          refine a_v rfl (s_extract (ev_t rfl) rfl) ?_
          refine a_v rfl (s_extract (ev_t rfl) rfl) ?_
          refine a_v rfl (s_assign (ev_t rfl)) ?_
          refine a_v rfl (s_assign (ev_t rfl)) ?_
          refine a_nil ?_
          exact ⟨_, _, by rw [if_neg (by rw [hc5]; simp)], rfl, ⟨rfl, rfl, rfl, rfl, rfl, rfl, rfl, rfl, rfl, rfl, rfl, rfl, rfl, trivial⟩, M3⟩
      rintro st W6 ⟨lt, now', hnow, rfl, hs, M3⟩
      refine a_forget hs ?_
      clear M2
      refine a_seq (a_seq (a_region ?_))
      refine a_v rfl (s_move (ev_t rfl)) ?_
      refine a_v rfl (s_lenA Try.us71 (ev_t rfl) (rowMono (accRow A2) M3.le)) ?_
      refine a_v rfl (s_cmp (ev_t rfl) ev_c rfl) ?_
      refine a_nil ?_
      refine a_cond (ev_t rfl) (fun hc5 => ?_) (fun hc5 => a_skip ?_)
      · exfalso; simp at hc5; omega
      obtain ⟨ad, cpx, hx⟩ := rowLen (accRow A2)
      obtain ⟨bs, hx, gbs⟩ : ∃ bs, x = .v (.slice (some ⟨bs, 0, none⟩) (t.length + 1) cpx) ∧ U₁ bs = some (.rown (snaps (s :: t)) (some (cpx * 18))) := by
        rcases A2 with ⟨_, h, _⟩ | ⟨bs, cp, _, _, h2, _, h4, _⟩
        · simp at h
        · rw [h2] at hx
          simp at hx
          obtain ⟨rfl, rfl⟩ := hx
          exact ⟨bs, h2, h4⟩
      have gbs6 := M3.le _ _ gbs
      subst hx
      refine a_seq (a_region ?_)
      refine a_v rfl (s_move (ev_t rfl)) ?_
      refine a_v rfl (s_move (ev_t rfl)) ?_
      refine a_v rfl (s_lens Try.us71 (ev_t rfl)) ?_
      refine a_v rfl (OpS.cast (congrArg iv (by simp : _ = ((t.length : Nat) : Int))) (s_sub (ev_t rfl) ev_c (by first | omega | (simp; done) | (simp; omega)) (by first | omega | (simp; done) | (simp; omega)))) ?_
      refine a_v rfl (s_idxs Try.sl71 (ev_t rfl) (ev_t rfl) (by omega) (by omega)) ?_
      refine a_v rfl (s_load Try.sh70 (ev_t rfl) gbs6 (snaps_top s t _ (by omega))) ?_
      refine a_vp rfl (s_alloc Try.z70) fun xv Vv hx => ?_
      obtain ⟨tt, ntt, rfl, rfl⟩ := hx
      have vtt : W6 tt = none := by simpa [View.set, ] using ntt
      refine a_s (s_store Try.sh70 (ev_t rfl) (ev_t rfl) (by simp [View.set, View.drop, vtt] <;> first | exact ⟨rfl, rfl⟩ | exact rfl) rfl rfl (by first | decide | (simp; done) | (simp; omega))) ?_
      refine a_nil ?_
      have M4 := M3.new (.row (arrV s)) ntt
      have n1tt : U₁ tt = none := View.le_none M3.le ntt
      have A3 := A2.set (.row (arrV s)) n1tt
      have n3tt : V₃ tt = none := A2.none n1tt
      refine a_gen fun W7 hW7 => ?_
      have hW7' : W7 = W6.set tt (.row (arrV s)) := by rw [hW7]; exact View.set_set _ _ _ _
      rw [← hW7'] at M4
      have htt : W7 tt = some (.row (arrV s)) := by rw [hW7']; exact View.set_same _ _ _
      obtain ⟨V₄, hV4⟩ : ∃ U, U = V₃.set tt (.row (arrV s)) := ⟨_, rfl⟩
      rw [← hV4] at A3
      have htt4 : V₄ tt = some (.row (arrV s)) := by rw [hV4]; exact View.set_same _ _ _
      have hbn4 : V₄ bn = some (.row (arrV now)) := by rw [hV4, View.set_other _ _ (View.ne_of hbn3 n3tt)]; exact hbn3
      have hVl4 : V.le V₄ := by rw [hV4]; exact View.le_set hVl3 (View.le_none hVl3 n3tt)
      have gbn := M4.le _ _ (accLe A3 _ _ hbn4)
      clear hV4 hW7 hW7'
      rw [dif_chg s now]
      refine a_seq (a_seq (a_region ?_))
      refine a_v rfl (s_move (ev_t rfl)) ?_
      refine a_v rfl (s_move (ev_t rfl)) ?_
      refine a_v rfl (s_load Try.sh70 (ev_t rfl) htt (rfl : rdc true 18 (arrV s) 0 = some (.agg (arrV s)))) ?_
      refine a_v rfl (s_load Try.sh70 (ev_t rfl) gbn (rfl : rdc true 18 (arrV now) 0 = some (.agg (arrV now)))) ?_
      refine a_vp rfl (s_call Try.okM18 (ev_t rfl) (.cons (ev_t rfl) (.cons (ev_t rfl) .nil)) (mk_differ _ _ _)) fun xv Vv hx => ?_
      obtain ⟨rfl, hVV⟩ := hx; have hVV := hVV.symm; subst hVV
      refine a_v rfl (s_lent Try.us72 (ev_t rfl)) ?_
      refine a_v rfl (s_cmp (ev_t rfl) (ev_t rfl) rfl) ?_
      refine a_v rfl (s_move (ev_t rfl)) ?_
      refine a_vg (gk rfl rfl (ev_t rfl) (by simp)) rfl (s_move (ev_t rfl)) ?_
      refine a_vg (gk rfl rfl (ev_t rfl) (by simp)) rfl (s_cmp (ev_t rfl) ev_c rfl) ?_
      refine a_v rfl (s_pick (x := .v (.bool _)) (ev_t rfl) (fun hx => (by exact absurd hx (by first | (simp; done) | (simp []; done) | (simp [*]; done)))) (fun _ => (ev_t rfl))) ?_
      refine a_nil ?_
      refine a_cond (ev_t rfl) (fun hc5 => ?_) (fun hc5 => a_skip ?_)
      · exfalso; simp at hc5
      obtain ⟨V₅, S1, S2⟩ := memSwap M4 A3
      refine a_seq (a_region ?_)
      refine a_v rfl (s_move (ev_t rfl)) ?_
      refine a_v rfl (s_move (ev_t rfl)) ?_
      refine a_v rfl (s_lens Try.us71 (ev_t rfl)) ?_
      refine a_v rfl (OpS.cast (congrArg iv (by simp : _ = ((t.length : Nat) : Int))) (s_sub (ev_t rfl) ev_c (by first | omega | (simp; done) | (simp; omega)) (by first | omega | (simp; done) | (simp; omega)))) ?_
      refine a_vp rfl (s_sliceA (h := t.length) Try.sl71 (ev_t rfl) S1 rfl (bnd_t (ev_t rfl) (by omega)) (by simp)) fun xv Vv hx => ?_
      have A149 := hx
      rw [snaps_take] at A149
      obtain ⟨V₆, V₇, M5, A5, hl7⟩ := memBack A149 S2
      obtain ⟨W8, rfl⟩ : ∃ U, U = Vv := ⟨_, rfl⟩
      refine a_v rfl (s_assign (ev_t rfl)) ?_
      refine a_nil ?_
      refine a_seq (a_region ?_)
      refine a_v rfl (s_move (ev_t rfl)) ?_
      refine a_nil ?_
      refine a_cond (ev_t rfl) (fun hc6 => ?_) (fun hc6 => a_skip ?_)
      · have hn' : now' = s := by rw [hnow, if_pos hc6]
        subst hn'
        refine a_region ?_
        refine a_v rfl (s_load Try.sh70 (ev_t rfl) (M5.le _ _ (accLe A5 _ _ (hl7 _ _ htt4))) (rfl : rdc true 18 (arrV now') 0 = some (.agg (arrV now')))) ?_
        refine a_s (s_storew Try.sh70 (ev_t rfl) (ev_t rfl) (M5.le _ _ (accLe A5 _ _ (hl7 _ _ hbn4))) rfl rfl (by rw [arrV_len]; decide) (rfl : wrc (arrV now) 0 (arrV now') = arrV now')) ?_
        refine a_nil ?_
        repeat first | refine thenA_x ?_ | refine blockA_hit ?_ | refine blockA_x (by decide) ?_
        refine ⟨_, _, now', t, _, _, rfl, ⟨rfl, rfl, rfl, rfl, rfl, rfl, rfl, rfl, rfl, rfl, trivial⟩, M5.upd (accLe A5 _ _ (hl7 _ _ hbn4)), accUpd' A5 bn _ (hl7 _ _ hbn4), View.set_same _ _ _, View.le_set (View.le_trans hVl4 hl7) hVbn, hzs1, (fun s hs => hzs s (by simp [hs])), (by simp at hsj; omega), (by rw [hst]; simp)⟩
      have hn' : now' = now := by rw [hnow, if_neg (by rw [hc6]; simp)]
      subst hn'
      repeat first | refine thenA_x ?_ | refine blockA_hit ?_ | refine blockA_x (by decide) ?_
      refine ⟨_, _, now', t, _, _, rfl, ⟨rfl, rfl, rfl, rfl, rfl, rfl, rfl, rfl, rfl, rfl, trivial⟩, M5, A5, hl7 _ _ hbn4, View.le_trans hVl4 hl7, hz, (fun s hs => hzs s (by simp [hs])), (by simp at hsj; omega), (by rw [hst]; simp)⟩
  clear M2 A2 hbn3 hVl3 hz hzs hsj hstep gta hta n1ta n2ta
  rintro st W6 ⟨lt, x, now, ss, V₁, V₂, rfl, hs, M, A, hbn, hVl, hz, hzs, hsj, hcnt⟩
  refine a_forget hs ?_
  have gbn := M.le _ _ (accLe A _ _ hbn)
  obtain ⟨bc, cap, X, xm, O⟩ := M.open
  have hE : (loadR n now k i).2 = e := by rw [loadR_err n now Ce0]; exact he.symm
  have hLd := mk_load O k i hkb
  rw [hE] at hLd
  refine a_seq (a_region ?_)
  refine a_v rfl (s_move (ev_t rfl)) ?_
  refine a_v rfl (s_move (ev_t rfl)) ?_
  refine a_v rfl (s_move (ev_t rfl)) ?_
  refine a_v rfl (s_call Try.okM23 ev_f (.cons (ev_t rfl) (.cons (ev_t rfl) (.cons (ev_t rfl) .nil))) (hLd)) ?_
  refine a_v rfl (s_move (ev_t rfl)) ?_
  refine a_v rfl (s_extract (ev_t rfl) rfl) ?_
  refine a_v rfl (s_extract (ev_t rfl) rfl) ?_
  refine a_v rfl (s_assign (ev_t rfl)) ?_
  refine a_v rfl (s_assign (ev_t rfl)) ?_
  refine a_nil ?_
  refine a_cut (fun st V' => ∃ lt, st = ⟨lt, 326⟩ ∧ SubT [(1, .tree 4 (actT l)), (6, .tree 1 (nT n)), (9, pt bm 0), (11, pt bn 0), (12, x), (13, .v (.func (.func 18) #[] #[])), (14, iv j)] lt ∧ W6 = V') ?_ ?_
  · by_cases he0 : e = 0
    · have he1 : errR n k i = 0 := he.symm.trans he0
      obtain ⟨o, jj, hko, hij, ho, hjn⟩ := errR_ok he1
      have hno := hn o ho
      have hl1 : (loadR n now k i).1 = now o jj := by rw [loadR_ok (o := o) (j := jj) (by rw [hko]; push_cast; rfl) ho hij hjn]
      rw [hl1, he0, hko, hij]
      refine a_seq (a_region ?_)
      refine a_v rfl (s_move (ev_t rfl)) ?_
      refine a_v rfl (s_move (ev_t rfl)) ?_
      refine a_v rfl (s_cmp (ev_t rfl) (ev_t rfl) rfl) ?_
      refine a_v rfl (s_move (ev_t rfl)) ?_
      refine a_vg (gk rfl rfl (ev_t rfl) rfl) rfl (s_move (ev_t rfl)) ?_
      refine a_vg (gk rfl rfl (ev_t rfl) rfl) rfl (s_cmp (ev_t rfl) ev_c rfl) ?_
      refine a_vg (gk rfl rfl (ev_t rfl) rfl) rfl (s_move (ev_t rfl)) ?_
      refine a_vg (gk rfl rfl (ev_t rfl) rfl) rfl (s_move (ev_t rfl)) ?_
      refine a_vg (gk rfl rfl (ev_t rfl) rfl) rfl (s_move (ev_t rfl)) ?_
      refine a_vg (gk rfl rfl (ev_t rfl) rfl) rfl (s_sub (ev_t rfl) ev_c (by omega) (by omega)) ?_
      refine a_vg (gk rfl rfl (ev_t rfl) rfl) rfl (s_move (ev_t rfl)) ?_
      refine a_vg (gk rfl rfl (ev_t rfl) rfl) rfl (s_idxa Try.ar70 (ev_t rfl) (ev_t rfl) (by omega) (by omega)) ?_
      refine a_vg (gk rfl rfl (ev_t rfl) rfl) rfl (s_idxa Try.ar69 (ev_t rfl) (ev_t rfl) (by omega) (by omega)) ?_
      refine a_vg (gk rfl rfl (ev_t rfl) rfl) rfl (s_load Try.sh2 (ev_t rfl) gbn (rdArr now ho (by omega) _ _ (by omega) rfl)) ?_
      refine a_vg (gk rfl rfl (ev_t rfl) rfl) rfl (s_cmp (ev_t rfl) (ev_t rfl) rfl) ?_
      refine a_vg (gk rfl rfl (ev_t rfl) rfl) rfl (s_pick (x := .v (.bool _)) (ev_t rfl) (fun _ => (ev_t rfl)) (fun hx => (by exact absurd hx (by first | (simp; done) | (simp []; done) | (simp [*]; done))))) ?_
      refine a_v rfl (s_pick (x := .v (.bool _)) (ev_t rfl) (fun hx => (by exact absurd hx (by first | (simp; done) | (simp []; done) | (simp [*]; done)))) (fun _ => (ev_t rfl))) ?_
      refine a_v rfl (s_move (ev_t rfl)) ?_
      refine a_vg (gk rfl rfl (ev_t rfl) (by simp)) rfl (s_move (ev_t rfl)) ?_
      refine a_vg (gk rfl rfl (ev_t rfl) (by simp)) rfl (s_call Try.okM24 ev_f (.cons (ev_t rfl) .nil) (mk_marks O)) ?_
      refine a_vg (gk rfl rfl (ev_t rfl) (by simp)) rfl (s_move (ev_t rfl)) ?_
      refine a_vg (gk rfl rfl (ev_t rfl) (by simp)) rfl (s_lenA Try.us71 (ev_t rfl) (rowMono (accRow A) M.le)) ?_
      refine a_vg (gk rfl rfl (ev_t rfl) (by simp)) rfl (s_cmp (ev_t rfl) (ev_t rfl) rfl) ?_
      refine a_v rfl (s_pick (x := .v (.bool _)) (ev_t rfl) (fun hx => (by exact absurd hx (by first | (simp; done) | (simp []; done) | (simp [*]; done)))) (fun _ => (ev_t rfl))) ?_
      refine a_nil ?_
      refine a_cond (ev_t rfl) (fun hc5 => ?_) (fun hc5 => a_skip ?_)
      · exfalso; simp at hc5
      exact ⟨_, rfl, ⟨rfl, rfl, rfl, rfl, rfl, rfl, rfl, trivial⟩, rfl⟩
    · skip
      refine a_seq (a_region ?_)
      refine a_v rfl (s_move (ev_t rfl)) ?_
      refine a_v rfl (s_move (ev_t rfl)) ?_
      refine a_v rfl (s_cmp (ev_t rfl) (ev_t rfl) rfl) ?_
      refine a_v rfl (s_move (ev_t rfl)) ?_
      refine a_vg (gk rfl rfl (ev_t rfl) (by simp)) rfl (s_move (ev_t rfl)) ?_
      refine a_vg (gk rfl rfl (ev_t rfl) (by simp)) rfl (s_cmp (ev_t rfl) ev_c rfl) ?_
      refine a_vg (gk rfl rfl (ev_t rfl) (by simp)) rfl (s_move (ev_t rfl)) ?_
      refine a_no (gn rfl rfl (ev_t rfl) (by simp [he0])) rfl ?_
      refine a_no (gn rfl rfl (ev_t rfl) (by simp [he0])) rfl ?_
      refine a_no (gn rfl rfl (ev_t rfl) (by simp [he0])) rfl ?_
      refine a_no (gn rfl rfl (ev_t rfl) (by simp [he0])) rfl ?_
      refine a_no (gn rfl rfl (ev_t rfl) (by simp [he0])) rfl ?_
      refine a_no (gn rfl rfl (ev_t rfl) (by simp [he0])) rfl ?_
      refine a_no (gn rfl rfl (ev_t rfl) (by simp [he0])) rfl ?_
      refine a_no (gn rfl rfl (ev_t rfl) (by simp [he0])) rfl ?_
      refine a_vg (gk rfl rfl (ev_t rfl) (by simp)) rfl (s_pick (x := bv false) (ev_t rfl) (fun hx => absurd hx (by simp [he0])) (fun _ => ev_c)) ?_
      refine a_v rfl (s_pick (x := .v (.bool _)) (ev_t rfl) (fun hx => (by exact absurd hx (by first | (simp; done) | (simp []; done) | (simp [*]; done)))) (fun _ => (ev_t rfl))) ?_
      refine a_v rfl (s_move (ev_t rfl)) ?_
      refine a_vg (gk rfl rfl (ev_t rfl) (by simp [he0])) rfl (s_move (ev_t rfl)) ?_
      refine a_vg (gk rfl rfl (ev_t rfl) (by simp [he0])) rfl (s_call Try.okM24 ev_f (.cons (ev_t rfl) .nil) (mk_marks O)) ?_
      refine a_vg (gk rfl rfl (ev_t rfl) (by simp [he0])) rfl (s_move (ev_t rfl)) ?_
      refine a_vg (gk rfl rfl (ev_t rfl) (by simp [he0])) rfl (s_lenA Try.us71 (ev_t rfl) (rowMono (accRow A) M.le)) ?_
      refine a_vg (gk rfl rfl (ev_t rfl) (by simp [he0])) rfl (s_cmp (ev_t rfl) (ev_t rfl) rfl) ?_
      refine a_v rfl (s_pick (x := .v (.bool _)) (ev_t rfl) (fun hx => (by exact absurd hx (by first | (simp; done) | (simp []; done) | (simp [*]; done)))) (fun _ => (ev_t rfl))) ?_
      refine a_nil ?_
      refine a_cond (ev_t rfl) (fun hc5 => ?_) (fun hc5 => a_skip ?_)
      · exfalso; simp [he0] at hc5
      exact ⟨_, rfl, ⟨rfl, rfl, rfl, rfl, rfl, rfl, rfl, trivial⟩, rfl⟩
  rintro st V' ⟨lt, rfl, hs, rfl⟩
  refine a_forget hs ?_
  refine a_seq (a_region ?_)
  refine a_vp rfl (s_alloc Try.z70) fun xv Vv hx => ?_
  obtain ⟨tn, ntn, rfl, rfl⟩ := hx
  have vtn : W6 tn = none := by simpa [View.set, ] using ntn
  refine a_nil ?_
  have M3 := M.new (.row (arrV Ce0)) ntn
  have n1tn : V₁ tn = none := View.le_none M.le ntn
  have A3 := A.set (.row (arrV Ce0)) n1tn
  have n2tn : V₂ tn = none := A.none n1tn
  refine a_gen fun W7 hW7 => ?_
  have hW7' : W7 = W6.set tn (.row (arrV Ce0)) := hW7
  rw [← hW7'] at M3
  obtain ⟨V₃, hV3⟩ : ∃ U, U = V₂.set tn (.row (arrV Ce0)) := ⟨_, rfl⟩
  obtain ⟨U₁, hU1⟩ : ∃ U, U = V₁.set tn (.row (arrV Ce0)) := ⟨_, rfl⟩
  rw [← hV3] at A3
  rw [← hU1] at A3 M3
  have htn3 : V₃ tn = some (.row (arrV Ce0)) := by rw [hV3]; exact View.set_same _ _ _
  have hbn3 : V₃ bn = some (.row (arrV now)) := by rw [hV3, View.set_other _ _ (View.ne_of hbn n2tn)]; exact hbn
  have hVl3 : V.le V₃ := by rw [hV3]; exact View.le_set hVl (View.le_none hVl n2tn)
  have hVtn : V tn = none := View.le_none hVl n2tn
  have hnbt : bn ≠ tn := View.ne_of hbn n2tn
  clear hV3 hU1 hW7 hW7' M A hbn hVl O hLd gbn n1tn n2tn ntn
  refine a_seq (a_seq (a_region ?_))
  refine a_v rfl (s_move (ev_t rfl)) ?_
  refine a_v rfl (s_lenA Try.us71 (ev_t rfl) (rowMono (accRow A3) M3.le)) ?_
  refine a_v rfl (s_cmp (ev_t rfl) ev_c rfl) ?_
  refine a_nil ?_
  refine a_cut1 (fun st V' => ∃ (lt : List (Nat × AVal)) (U₁ V₃ : View), st = ⟨lt, 326⟩ ∧ SubT [(1, .tree 4 (actT l)), (6, .tree 1 (nT n)), (9, pt bm 0), (11, pt bn 0), (12, x), (13, .v (.func (.func 18) #[] #[])), (14, iv j), (29, pt tn 0)] lt ∧ Mem V' bm n now now ss U₁ ∧ Acc U₁ x 18 ss.length (snaps ss) V₃ ∧ V₃ bn = some (.row (arrV now)) ∧ V₃ tn = some (.row (arrV (since ss))) ∧ V.le V₃) ?_ ?_
  · match ss, M3, A3, hzs, hsj, hcnt with
    | [], M3, A3, hzs, hsj, hcnt =>
      refine a_cond (ev_t rfl) (fun hc5 => ?_) (fun hc5 => a_skip ?_)
      · exfalso; simp at hc5
      exact ⟨_, _, _, rfl, ⟨rfl, rfl, rfl, rfl, rfl, rfl, rfl, rfl, trivial⟩, M3, A3, hbn3, htn3, hVl3⟩
    | s :: t, M3, A3, hzs, hsj, hcnt =>
      refine a_cond (ev_t rfl) (fun hc5 => ?_) (fun hc5 => ?_)
      rotate_left
      · exfalso; simp at hc5
      have htl : t.length < 41 := by simp at hsj; omega
      obtain ⟨ad, cpx, hx⟩ := rowLen (accRow A3)
      obtain ⟨bs, hx, gbs⟩ : ∃ bs, x = .v (.slice (some ⟨bs, 0, none⟩) (t.length + 1) cpx) ∧ U₁ bs = some (.rown (snaps (s :: t)) (some (cpx * 18))) := by
        rcases A3 with ⟨_, h, _⟩ | ⟨bs, cp, _, _, h2, _, h4, _⟩
        · simp at h
        · rw [h2] at hx
          simp at hx
          obtain ⟨rfl, rfl⟩ := hx
          exact ⟨bs, h2, h4⟩
      have gbs6 := M3.le _ _ gbs
      subst hx
      refine a_region ?_
      refine a_v rfl (s_move (ev_t rfl)) ?_
      refine a_v rfl (s_move (ev_t rfl)) ?_
      refine a_v rfl (s_lens Try.us71 (ev_t rfl)) ?_
      refine a_v rfl (OpS.cast (congrArg iv (by simp : _ = ((t.length : Nat) : Int))) (s_sub (ev_t rfl) ev_c (by first | omega | (simp; done) | (simp; omega)) (by first | omega | (simp; done) | (simp; omega)))) ?_
      refine a_v rfl (s_idxs Try.sl71 (ev_t rfl) (ev_t rfl) (by omega) (by omega)) ?_
      refine a_v rfl (s_load Try.sh70 (ev_t rfl) gbs6 (snaps_top s t _ (by omega))) ?_
      refine a_s (s_storew Try.sh70 (ev_t rfl) (ev_t rfl) (M3.le _ _ (accLe A3 _ _ htn3)) rfl rfl (by rw [arrV_len]; decide) (rfl : wrc (arrV Ce0) 0 (arrV s) = arrV s)) ?_
      refine a_nil ?_
      exact ⟨_, _, _, rfl, ⟨rfl, rfl, rfl, rfl, rfl, rfl, rfl, rfl, trivial⟩, M3.upd (accLe A3 _ _ htn3), accUpd' A3 tn _ htn3, by rw [View.set_other _ _ hnbt]; exact hbn3, View.set_same _ _ _, View.le_set hVl3 hVtn⟩
  clear M3 A3 hbn3 hVl3 htn3
  rintro st W8 ⟨lt, U₁, V₃, rfl, hs, M, A, hbn, htn, hVl⟩
  refine a_forget hs ?_
  have gbn := M.le _ _ (accLe A _ _ hbn)
  have gtn := M.le _ _ (accLe A _ _ htn)
  obtain ⟨C, hC⟩ : ∃ C, C = chgU (since ss) now (fun _ => 6) 3 0 := ⟨_, rfl⟩
  have hzS : Zr n (since ss) := by
    match ss, hzs with
    | [], _ => exact Zr0 n
    | s :: t, hzs => exact hzs s (by simp)
  have hCh : chgU (since ss) now n 3 0 = C := by rw [hC]; exact chgU_all hn hzS hz
  have hss : ss.length ≤ 64 := by omega
  have hCl : C.length ≤ 24 := by
    rw [hC]
    have := chgU_len (since ss) now (n := fun _ => 6) (fun _ _ => Nat.le_refl _) (o := 3) (i := 0) (by omega) (by omega)
    omega
  refine a_seq (a_region ?_)
  refine a_v rfl (s_move (ev_t rfl)) ?_
  refine a_v rfl (s_load Try.sh70 (ev_t rfl) gtn (rfl : rdc true 18 (arrV (since ss)) 0 = some (.agg (arrV (since ss))))) ?_
  refine a_v rfl (s_load Try.sh70 (ev_t rfl) gbn (rfl : rdc true 18 (arrV now) 0 = some (.agg (arrV now)))) ?_
  refine a_vp rfl (s_call Try.okM18 (ev_t rfl) (.cons (ev_t rfl) (.cons (ev_t rfl) .nil)) (mk_differ _ _ _)) fun xv Vv hx => ?_
  obtain ⟨rfl, hVV⟩ := hx; have hVV := hVV.symm; subst hVV
  refine a_v rfl (s_assign (ev_t rfl)) ?_
  refine a_nil ?_
  rw [← hC]
  have hCg : C.all (fun x => x.good && Nat.beq x.cells.length 4) = true := by rw [hC]; exact chgU_good _ _ _ _ _
  refine a_seq (a_seq (a_region ?_))
  refine a_v rfl (s_move (ev_t rfl)) ?_
  refine a_v rfl (s_call Try.okM25 ev_f (.cons (ev_t rfl) .nil) ((hCh ▸ mk_changes M hn hss : ACalls Try.prog 25 [pt bm 0] W8 (One (.tree 4 C) W8)))) ?_
  refine a_v rfl (s_move (ev_t rfl)) ?_
  refine a_vp rfl (s_call Try.okM26 ev_f (.cons (ev_t rfl) .nil) (mk_copy M hn hss)) fun xv Vv hx => ?_
  obtain ⟨bc, rfl, MC⟩ := hx; obtain ⟨W9, rfl⟩ : ∃ U, U = Vv := ⟨_, rfl⟩
  refine a_v rfl (s_call Try.okM25 ev_f (.cons (ev_t rfl) .nil) ((hCh ▸ mk_changes MC hn hss : ACalls Try.prog 25 [pt bc 0] W9 (One (.tree 4 C) W9)))) ?_
  refine a_v rfl (s_litx Try.sl83 Try.z72 rfl rfl (.cons (ev_t rfl) (.cons (ev_t rfl) .nil)) rfl rfl rfl) ?_
  refine a_v rfl (s_lent Try.us83 (ev_t rfl)) ?_
  refine a_v rfl (s_move ev_c) ?_
  refine a_nil ?_
  have M5 := M.more MC.le
  refine a_weaken (V' := W9) (View.le_refl _) ?_
  clear MC
  refine a_cut1 (fun st V' => ∃ lt, st = ⟨lt, 326⟩ ∧ SubT [(1, .tree 4 (actT l)), (6, .tree 1 (nT n)), (9, pt bm 0), (11, pt bn 0), (12, x), (13, .v (.func (.func 18) #[] #[])), (14, iv j)] lt ∧ W9 = V') ?_ ?_
  · refine a_block ?_
    refine a_loop (fun m2 st V' => ∃ (i2 : Nat) (lt : List (Nat × AVal)), 2 - i2 = m2 ∧ i2 ≤ 2 ∧ st = ⟨lt, 326⟩ ∧ SubT [(1, .tree 4 (actT l)), (6, .tree 1 (nT n)), (9, pt bm 0), (11, pt bn 0), (12, x), (13, .v (.func (.func 18) #[] #[])), (14, iv j), (30, .tree 4 C), (271, .tree 1 [.tree 4 C, .tree 4 C]), (272, iv 2), (273, iv i2)] lt ∧ W9 = V') ?_ 2 _ _ ⟨0, _, rfl, by omega, rfl, ⟨rfl, rfl, rfl, rfl, rfl, rfl, rfl, rfl, rfl, rfl, rfl, trivial⟩, rfl⟩
    rintro m2 st V' ⟨i2, lt, rfl, hi2, rfl, hs, rfl⟩
    refine a_forget hs ?_
    refine a_seq (a_region ?_)
    refine a_v rfl (s_cmp (ev_t rfl) (ev_t rfl) rfl) ?_
    refine a_nil ?_
    refine a_seq (a_cond (ev_t rfl) (fun hc5 => a_skip ?_) (fun hc5 => a_exit ?_))
    · have hi' : i2 < 2 := by simp at hc5; omega
      refine a_seq (a_block ?_)
      refine a_seq (a_region ?_)
      refine a_v rfl (s_idxt Try.sl83 (ev_t rfl) (ev_t rfl) (by omega) (two_get hi')) ?_
      refine a_v rfl (s_loadr Try.sh72 rfl (ev_t rfl) (refT _ _)) ?_
      refine a_v rfl (s_assign (ev_t rfl)) ?_
      refine a_nil ?_
      refine a_seq (a_seq (a_region ?_))
      refine a_v rfl (s_move (ev_t rfl)) ?_
      refine a_v rfl (s_lent Try.us72 (ev_t rfl)) ?_
      refine a_v rfl (s_move (ev_t rfl)) ?_
      refine a_v rfl (s_lent Try.us72 (ev_t rfl)) ?_
      refine a_v rfl (s_cmp (ev_t rfl) (ev_t rfl) rfl) ?_
      refine a_nil ?_
      refine a_cond (ev_t rfl) (fun hc6 => ?_) (fun hc6 => a_skip ?_)
      · exfalso; simp at hc6
      repeat first | refine thenA_x ?_ | refine blockA_hit ?_ | refine blockA_x (by decide) ?_
      refine a_seq (a_region ?_)
      refine a_v rfl (s_move (ev_t rfl)) ?_
      refine a_v rfl (s_lent Try.us72 (ev_t rfl)) ?_
      refine a_v rfl (s_move ev_c) ?_
      refine a_nil ?_
      refine a_block ?_
      refine a_loop (fun m3 st V' => ∃ (q : Nat) (lt : List (Nat × AVal)), C.length - q = m3 ∧ q ≤ C.length ∧ st = ⟨lt, 326⟩ ∧ SubT [(1, .tree 4 (actT l)), (6, .tree 1 (nT n)), (9, pt bm 0), (11, pt bn 0), (12, x), (13, .v (.func (.func 18) #[] #[])), (14, iv j), (30, .tree 4 C), (271, .tree 1 [.tree 4 C, .tree 4 C]), (272, iv 2), (273, iv i2), (32, .tree 4 C), (283, iv C.length), (284, iv q)] lt ∧ W9 = V') ?_ C.length _ _ ⟨0, _, rfl, by omega, rfl, ⟨rfl, rfl, rfl, rfl, rfl, rfl, rfl, rfl, rfl, rfl, rfl, rfl, rfl, rfl, trivial⟩, rfl⟩
      rintro m3 st V' ⟨q, lt, rfl, hq, rfl, hs, rfl⟩
      refine a_forget hs ?_
      refine a_seq (a_region ?_)
      refine a_v rfl (s_cmp (ev_t rfl) (ev_t rfl) rfl) ?_
      refine a_nil ?_
      refine a_seq (a_cond (ev_t rfl) (fun hc6 => a_skip ?_) (fun hc6 => a_exit ?_))
      · have hq' : q < C.length := by simp at hc6; omega
        obtain ⟨za, zb, zu, zv2, hg⟩ : ∃ a b u v : Int, C[((q : Nat) : Int).toNat]? = some (.agg ([Value.int .i64 a, .int .i64 b, .int .i64 u, .int .i64 v].map .v)) := by
          rw [hC] at hq' ⊢; exact chgU_get hq'
        refine a_seq (a_block ?_)
        refine a_seq (a_region ?_)
        refine a_v rfl (s_move (ev_t rfl)) ?_
        refine a_v rfl (s_assign (ev_t rfl)) ?_
        refine a_nil ?_
        refine a_seq (a_draw [false, false, false, false, false, false, false, false, false] (_) Try.mixed rfl (by kernel_rfl) (View.le_refl _) ?_)
        refine d_v (fun V' hU => f_plain rfl (s_move (ev_o rfl rfl))) ?_
        refine d_v (fun V' hU => f_plain rfl (s_move (ev_o rfl rfl))) ?_
        refine d_v (fun V' hU => f_plain rfl (s_idxt Try.sl72 (ev_o rfl rfl) (ev_o rfl rfl) (by omega) hg)) ?_
        refine d_v (fun V' hU => f_plain rfl (s_loadr Try.sh74 rfl (ev_o rfl rfl) (refA rfl))) ?_
        refine d_v (fun V' hU => f_plain rfl (s_move (ev_o rfl rfl))) ?_
        refine d_v (fun V' hU => f_plain rfl (s_move (ev_o rfl rfl))) ?_
        refine d_v (fun V' hU => f_plain rfl (s_idxt Try.sl72 (ev_o rfl rfl) (ev_o rfl rfl) (by omega) hg)) ?_
        refine d_v (fun V' hU => f_plain rfl (s_loadr Try.sh74 rfl (ev_o rfl rfl) (refA rfl))) ?_
        refine d_v (fun V' hU => f_plain rfl (s_eqa (D := 2) (ks := [.i .i64, .i .i64, .i .i64, .i .i64]) (xs := [.int .i64 za, .int .i64 zb, .int .i64 zu, .int .i64 zv2]) (ys := [.int .i64 za, .int .i64 zb, .int .i64 zu, .int .i64 zv2]) (r := false) (by kernel_rfl) rfl (by kernel_rfl) Try.sh74 (ev_o rfl rfl) (ev_o rfl rfl) ⟨rfl, rfl, rfl, rfl, trivial⟩ ⟨rfl, rfl, rfl, rfl, trivial⟩ (.inr ⟨rfl, iff_of_true rfl rfl⟩))) ?_
        refine d_nil ?_
        refine a_cond (ev_t rfl) (fun hc7 => ?_) (fun hc7 => a_skip ?_)
        · cases hc7
        repeat first | refine thenA_x ?_ | refine blockA_hit ?_ | refine blockA_x (by decide) ?_
        refine a_region ?_
        refine a_v rfl (s_add (ev_t rfl) ev_c (by omega) (by omega)) ?_
        refine a_v rfl (s_move (ev_t rfl)) ?_
        refine a_nil ?_
        exact ⟨C.length - (q + 1), by omega, q + 1, _, rfl, by omega, rfl, ⟨rfl, rfl, rfl, rfl, rfl, rfl, rfl, rfl, rfl, rfl, rfl, rfl, rfl, rfl, trivial⟩, rfl⟩
      repeat first | refine thenA_x ?_ | refine blockA_hit ?_ | refine blockA_x (by decide) ?_
      refine a_region ?_
      refine a_v rfl (s_add (ev_t rfl) ev_c (by omega) (by omega)) ?_
      refine a_v rfl (s_move (ev_t rfl)) ?_
      refine a_nil ?_
      exact ⟨2 - (i2 + 1), by omega, i2 + 1, _, rfl, by omega, rfl, ⟨rfl, rfl, rfl, rfl, rfl, rfl, rfl, rfl, rfl, rfl, rfl, trivial⟩, rfl⟩
    repeat first | refine thenA_x ?_ | refine blockA_hit ?_ | refine blockA_x (by decide) ?_
    exact ⟨_, rfl, ⟨rfl, rfl, rfl, rfl, rfl, rfl, rfl, trivial⟩, rfl⟩
  rintro st V' ⟨lt, rfl, hs, rfl⟩
  refine a_forget hs ?_
  refine a_seq (a_region ?_)
  refine a_v rfl (s_assign ev_c) ?_
  refine a_nil ?_
  refine a_cut1 (fun st V' => ∃ lt, st = ⟨lt, 326⟩ ∧ SubT [(1, .tree 4 (actT l)), (6, .tree 1 (nT n)), (9, pt bm 0), (11, pt bn 0), (12, x), (13, .v (.func (.func 18) #[] #[])), (14, iv j)] lt ∧ W9 = V') ?_ ?_
  · refine a_block ?_
    refine a_loop (fun m2 st V' => ∃ (o : Nat) (lt : List (Nat × AVal)), 3 - o = m2 ∧ o ≤ 3 ∧ st = ⟨lt, 326⟩ ∧ SubT [(1, .tree 4 (actT l)), (6, .tree 1 (nT n)), (9, pt bm 0), (11, pt bn 0), (12, x), (13, .v (.func (.func 18) #[] #[])), (14, iv j), (34, iv ((o + 1 : Nat) : Int))] lt ∧ W9 = V') ?_ 3 _ _ ⟨0, _, rfl, by omega, rfl, ⟨rfl, rfl, rfl, rfl, rfl, rfl, rfl, rfl, trivial⟩, rfl⟩
    rintro m2 st V' ⟨o, lt, rfl, ho3, rfl, hs, rfl⟩
    refine a_forget hs ?_
    have gbn9 := M5.le _ _ (accLe A _ _ hbn)
    refine a_seq (a_seq (a_region ?_))
    refine a_v rfl (s_move (ev_t rfl)) ?_
    refine a_v rfl (s_cmp (ev_t rfl) ev_c rfl) ?_
    refine a_nil ?_
    refine a_cond (ev_t rfl) (fun hc5 => a_skip ?_) (fun hc5 => a_exit ?_)
    · have ho : o < 3 := by simp at hc5; omega
      have hno := hn5 o
      refine a_seq (a_block ?_)
      refine a_seq (a_region ?_)
      refine a_v rfl (s_move (ev_t rfl)) ?_
      refine a_v rfl (s_move (ev_t rfl)) ?_
      refine a_v rfl (s_call Try.okM27 ev_f (.cons (ev_t rfl) (.cons (ev_t rfl) .nil)) (mk_all M5 hn ho)) ?_
      refine a_v rfl (s_move (ev_t rfl)) ?_
      refine a_v rfl (s_extract (ev_t rfl) rfl) ?_
      refine a_v rfl (s_extract (ev_t rfl) rfl) ?_
      refine a_v rfl (s_assign (ev_t rfl)) ?_
      refine a_v rfl (s_assign (ev_t rfl)) ?_
      refine a_nil ?_
      refine a_seq (a_draw [false, false, false, false, false, false, false, false, false, false, false, false, false, false, false, false] (_) Try.mixed rfl (by kernel_rfl) (View.le_refl _) ?_)
      refine d_v (fun V' hU => f_plain rfl (s_move (ev_o rfl rfl))) ?_
      refine d_v (fun V' hU => f_plain rfl (s_cmp (ev_o rfl rfl) ev_c rfl)) ?_
      refine d_v (fun V' hU => f_plain rfl (s_move (ev_o rfl rfl))) ?_
      refine d_v (fun V' hU => f_known (gk rfl rfl (ev_o rfl rfl) rfl) (s_move (ev_o rfl rfl))) ?_
      refine d_v (fun V' hU => f_known (gk rfl rfl (ev_o rfl rfl) rfl) (s_move (ev_o rfl rfl))) ?_
      refine d_v (fun V' hU => f_known (gk rfl rfl (ev_o rfl rfl) rfl) (s_sub (ev_o rfl rfl) ev_c (by omega) (by omega))) ?_
      refine d_v (fun V' hU => f_known (gk rfl rfl (ev_o rfl rfl) rfl) (s_idxa Try.ar70 (ev_o rfl rfl) (ev_o rfl rfl) (by omega) (by omega))) ?_
      refine d_v (fun V' hU => f_known (gk rfl rfl (ev_o rfl rfl) rfl) (s_move (ev_o rfl rfl))) ?_
      refine d_v (fun V' hU => f_known (gk rfl rfl (ev_o rfl rfl) rfl) (s_move (ev_o rfl rfl))) ?_
      refine d_v (fun V' hU => f_known (gk rfl rfl (ev_o rfl rfl) rfl) (s_sub (ev_o rfl rfl) ev_c (by omega) (by omega))) ?_
      refine d_v (fun V' hU => f_known (gk rfl rfl (ev_o rfl rfl) rfl) (s_idxt Try.sl65 (ev_o rfl rfl) (ev_o rfl rfl) (by omega) (by rw [show ((o + 1 : Nat) : Int) - 1 = ((o : Nat) : Int) by omega]; exact nT_get ho : (nT n)[(((o + 1 : Nat) : Int) - 1).toNat]? = some (iv (n o))))) ?_
      refine d_v (fun V' hU => f_known (gk rfl rfl (ev_o rfl rfl) rfl) (s_loadr Try.sh3 rfl (ev_o rfl rfl) (ref1 rfl))) ?_
      refine d_v (fun V' hU => f_known (gk rfl rfl (ev_o rfl rfl) rfl) (s_slicea (l := 0) (h := n o) Try.ar69 (ev_o rfl rfl) rfl (bnd_t (ev_o rfl rfl) rfl) (by omega) (by omega) (by omega))) ?_
      refine d_v (fun V' hU => f_known (gk rfl rfl (ev_o rfl rfl) rfl) (s_call Try.okM28 ev_f (.cons (ev_o rfl rfl) (.cons (ev_o rfl rfl) .nil)) (mk_numbers (off := 0 + (((o + 1 : Nat) : Int) - 1).toNat * 6 + 0 * 1) now (hn o ho) (hU _ _ gbn9) (fun i hi => (by have h := rdArr now ho (show i < 6 by omega) (o : Int) (i : Int) rfl rfl; rw [show 0 + (((o + 1 : Nat) : Int) - 1).toNat * 6 + 0 * 1 + ((i : Nat) : Int).toNat * 1 = 0 + ((o : Nat) : Int).toNat * 6 + ((i : Nat) : Int).toNat * 1 by omega]; exact h))))) ?_
      refine d_v (fun V' hU => f_known (gk rfl rfl (ev_o rfl rfl) rfl) (s_not (ev_o rfl rfl))) ?_
      refine d_v (fun V' hU => f_plain rfl (s_pick (x := .v (.bool _)) (ev_o rfl rfl) (fun hx => (by exact absurd hx (by first | (simp; done) | (simp []; done) | (simp [*]; done)))) (fun _ => (ev_o rfl rfl)))) ?_
      refine d_nil ?_
      refine a_cond (ev_t rfl) (fun hc6 => ?_) (fun hc6 => a_skip ?_)
      · cases hc6
      repeat first | refine thenA_x ?_ | refine blockA_hit ?_ | refine blockA_x (by decide) ?_
      refine a_region ?_
      refine a_v rfl (s_move (ev_t rfl)) ?_
      refine a_v rfl (s_add (ev_t rfl) ev_c (by omega) (by omega)) ?_
      refine a_v rfl (s_assign (ev_t rfl)) ?_
      refine a_nil ?_
      exact ⟨3 - (o + 1), by omega, o + 1, _, rfl, by omega, rfl, ⟨rfl, rfl, rfl, rfl, rfl, rfl, rfl, rfl, trivial⟩, rfl⟩
    repeat first | refine thenA_x ?_ | refine blockA_hit ?_ | refine blockA_x (by decide) ?_
    exact ⟨_, rfl, ⟨rfl, rfl, rfl, rfl, rfl, rfl, rfl, trivial⟩, rfl⟩
  rintro st V' ⟨lt, rfl, hs, rfl⟩
  refine a_forget hs ?_
  repeat first | refine thenA_x ?_ | refine blockA_hit ?_ | refine blockA_x (by decide) ?_
  refine a_region ?_
  refine a_v rfl (s_move (ev_t rfl)) ?_
  refine a_v rfl (s_add (ev_t rfl) ev_c (by omega) (by omega)) ?_
  refine a_v rfl (s_assign (ev_t rfl)) ?_
  refine a_nil ?_
  exact ⟨40 - (j + 1), by omega, j + 1, _, x, now, ss, U₁, V₃, rfl, by omega, by omega, rfl, ⟨rfl, rfl, rfl, rfl, rfl, rfl, rfl, trivial⟩, M5, A, hbn, hVl, hz, hzs, hsj, hcnt⟩
#print axioms mk_marked
end Go.Proofs
