/- Cells with marks: what has changed since the top mark. -/
import Derived.Test.YtapelipehckbcaaMkL
set_option linter.unusedVariables false
set_option linter.unusedSimpArgs false
set_option linter.unnecessarySimpa false
namespace Go.AV
theorem accUpd' {V V₀ : View} {x : AVal} {sz n : Nat} {cs : List AVal} (h : Acc V x sz n cs V₀) (b : Nat) (o : AObj) {o' : AObj} (hb : V₀ b = some o') : Acc (V.set b o) x sz n cs (V₀.set b o) := by
  rcases h with ⟨h1, h2, h3, rfl⟩ | ⟨r, cap, h1, h0, h2, h3, h4, rfl⟩
  · exact .inl ⟨h1, h2, h3, rfl⟩
  · have hne : b ≠ r := by rintro rfl; rw [h0] at hb; cases hb
    refine .inr ⟨r, cap, h1, by rw [View.set_other _ _ hne.symm]; exact h0, h2, h3, by rw [View.set_other _ _ hne.symm]; exact h4, ?_⟩
    funext k
    by_cases e1 : k = r <;> by_cases e2 : k = b <;> simp_all [View.set, View.drop]
theorem rowM_get1 {ms : List Nat} {bt : Nat} {i : Int} (h : i = (ms.length : Int)) : rdc false 1 ((ms.reverse ++ [bt]).map mpv) (0 + i.toNat * 1 + 0) = some (mpv bt) := by
  subst h
  have e1 : (0 + ((ms.length : Nat) : Int).toNat * 1 + 0) = ms.length := by omega
  rw [e1]
  simp [rdc]
def since (ss : List Ce) : Ce := ss.headD Ce0
end Go.AV
namespace Go.Proofs
open Go.AV
variable {V V₀ : View} {b : Nat} {n : Nat → Nat} {c base : Ce} {ss : List Ce} {bc cap : Nat} {X : Nat → AVal} {xm : AVal}
theorem mk_changes (M : Mem V b n c c ss V₀) (hn : ∀ o, o < 3 → n o ≤ 6) (hss : ss.length ≤ 64) : ACalls Try.prog 25 [pt b 0] V (One (.tree 4 (chgU (since ss) c n 3 0)) V) := by
  obtain ⟨bc, cap, X, xm, O⟩ := M.open
  obtain ⟨cm0, hM0⟩ := O.marks
  refine a_fn (fn := Try.f25) Try.func25 rfl ?_ rfl
  refine a_seq (a_region ?_)
  refine a_vp rfl (s_box (ev_t rfl) rfl) fun xv Vv hx => ?_
  obtain ⟨bb, nbb, rfl, rfl⟩ := hx
  have vbb : V bb = none := by simpa [View.set, ] using nbb
  refine a_v rfl (s_assign ev_c) ?_
  refine a_nil ?_
  refine a_seq (a_seq (a_region ?_))
  refine a_v rfl (s_load Try.sh66 (ev_t rfl) (by simp [View.set, View.drop, vbb] <;> first | exact ⟨rfl, rfl⟩ | exact rfl) rfl) ?_
  refine a_v rfl (s_call Try.okM48 ev_f (.cons (ev_t rfl) .nil) (mk_is (View.le_self_set nbb _ _ O.row))) ?_
  refine a_v rfl (s_not (ev_t rfl)) ?_
  refine a_nil ?_
  refine a_cond (ev_t rfl) (fun hc => ?_) (fun hc => a_skip ?_)
  · exfalso; simp at hc
  repeat first | refine thenA_x ?_ | refine blockA_hit ?_ | refine blockA_x (by decide) ?_
  refine a_seq (a_region ?_)
  refine a_vp rfl (s_alloc Try.z72) fun xv Vv hx => ?_
  obtain ⟨bo, nbo, rfl, rfl⟩ := hx
  have ebobb : ¬ bo = bb := by rintro rfl; simp [View.set, vbb] at nbo
  have ebobb' : ¬ bb = bo := fun h => ebobb h.symm
  have vbo : V bo = none := by simpa [View.set, vbb, ebobb, ebobb'] using nbo
  refine a_nil ?_
  refine a_seq (a_seq (a_region ?_))
  refine a_v rfl (s_load Try.sh66 (ev_t rfl) (by simp [View.set, View.drop, vbb, ebobb, ebobb', vbo] <;> first | exact ⟨rfl, rfl⟩ | exact rfl) rfl) ?_
  refine a_vp rfl (s_call Try.okM51 ev_f (.cons (ev_t rfl) .nil) (mk_all0 _)) fun xv Vv hx => ?_
  obtain ⟨b1, nb1, rfl, rfl⟩ := hx
  refine a_nil ?_
  have eb1bb : ¬ b1 = bb := by rintro rfl; simp [View.set, vbb, ebobb, ebobb', vbo] at nb1
  have eb1bb' : ¬ bb = b1 := fun h => eb1bb h.symm
  have eb1bo : ¬ b1 = bo := by rintro rfl; simp [View.set, vbb, ebobb, ebobb', vbo, eb1bb, eb1bb'] at nb1
  have eb1bo' : ¬ bo = b1 := fun h => eb1bo h.symm
  have vb1 : V b1 = none := by simpa [View.set, vbb, ebobb, ebobb', vbo, eb1bb, eb1bb', eb1bo, eb1bo'] using nb1
  refine a_block ?_
  refine a_range (fs := []) (cap := [_]) Try.okM67 (ev_t rfl) fun L nL => ?_
  generalize hlo : AObj.loop LoopState.ready none _ _ _ _ = lo
  have eLbb : ¬ L = bb := by rintro rfl; simp [View.set, vbb, ebobb, ebobb', vbo, eb1bb, eb1bb', eb1bo, eb1bo', vb1] at nL
  have eLbb' : ¬ bb = L := fun h => eLbb h.symm
  have eLbo : ¬ L = bo := by rintro rfl; simp [View.set, vbb, ebobb, ebobb', vbo, eb1bb, eb1bb', eb1bo, eb1bo', vb1, eLbb, eLbb'] at nL
  have eLbo' : ¬ bo = L := fun h => eLbo h.symm
  have eLb1 : ¬ L = b1 := by rintro rfl; simp [View.set, vbb, ebobb, ebobb', vbo, eb1bb, eb1bb', eb1bo, eb1bo', vb1, eLbb, eLbb', eLbo, eLbo'] at nL
  have eLb1' : ¬ b1 = L := fun h => eLb1 h.symm
  have vL : V L = none := by simpa [View.set, vbb, ebobb, ebobb', vbo, eb1bb, eb1bb', eb1bo, eb1bo', vb1, eLbb, eLbb', eLbo, eLbo', eLb1, eLb1'] using nL
  refine mk_iter (V := V) O hn (fun o i V₁ => ∃ (x : AVal) (V₂ : View), Acc V₁ x 4 (chgU (since ss) c n o i).length ((chgU (since ss) c n o i).flatMap AVal.cells) V₂ ∧ V₂ L = some lo ∧ V₂ bo = some (.row [x]) ∧ V₂ bb = some (.row [pt b 0]) ∧ V₂ b1 = some (.row [pt b 0]) ∧ View.le V V₂) ?_ ?_ ?_ ?_ ?_ ?_
  · rintro o i V' ⟨x, V₂, A, _, _, _, _, kl⟩; exact View.le_trans kl (accLe A)
  · rintro o i V' ⟨x, V₂, A, _, _, _, k1, _⟩; exact accLe A _ _ k1
  · refine ⟨.v (.slice none 0 0), _, accNil, View.set_same _ _ _, ?_, ?_, ?_, ?_⟩
    all_goals first | (simp [View.set, vbb, ebobb, ebobb', vbo, eb1bb, eb1bb', eb1bo, eb1bo', vb1, eLbb, eLbb', eLbo, eLbo', eLb1, eLb1', vL]; done) | (simp [View.set, vbb, ebobb, ebobb', vbo, eb1bb, eb1bb', eb1bo, eb1bo', vb1, eLbb, eLbb', eLbo, eLbo', eLb1, eLb1', vL]; rfl) | skip
    repeat refine View.le_set ?_ (by assumption)
    exact View.le_refl _
  · rintro o i V₁ ho hi ⟨x, V₂, A1, k0, ko, kb, k1, kl⟩
    have hno := hn o ho
    have hlen := chgU_len (since ss) c hn (o := o) (i := i) (by omega) (by omega)
    have g0 := accLe A1 _ _ k0
    refine a_round (pend := none) (by rw [g0, ← hlo]) rfl rfl ?_
    refine a_seq (a_region ?_)
    refine a_vp rfl (s_alloc Try.z124) fun xv Vv hx => ?_
    obtain ⟨kc, nkc, rfl, rfl⟩ := hx
    have vkc : V₁ kc = none := by simpa [View.set, ] using nkc
    refine a_s (s_store Try.sh124 (ev_t rfl) (ev_t rfl) (by simp [View.set, View.drop, vkc] <;> first | exact ⟨rfl, rfl⟩ | exact rfl) rfl rfl (by first | decide | (simp; done) | (simp; omega))) ?_
    refine a_nil ?_
    have nkc2 : V₂ kc = none := A1.none nkc
    have A2 := A1.set (.row [iv ((o + 1 : Nat) : Int), iv (i : Int)]) nkc
    refine a_gen fun W hW => ?_
    have hW' : W = V₁.set kc (.row [iv ((o + 1 : Nat) : Int), iv (i : Int)]) := by rw [hW]; exact View.set_set _ _ _ _
    rw [← hW'] at A2
    refine a_region ?_
    refine a_v rfl (s_assign (ev_t rfl)) ?_
    refine a_nil ?_
    have q0 : (V₂.set kc (.row [iv ((o + 1 : Nat) : Int), iv (i : Int)])) L = some lo := by rw [View.set_other _ _ (View.ne_of k0 nkc2)]; exact k0
    refine ⟨by rw [accLe A2 _ _ q0, ← hlo], ?_⟩
    generalize hlb : AObj.loop LoopState.busy none _ _ _ _ = lb
    have A3 := accUpd' A2 L lb q0
    refine a_gen fun W2 hW2 => ?_
    rw [← hW2] at A3
    obtain ⟨V₄, hV4⟩ : ∃ U, U = (V₂.set kc (.row [iv ((o + 1 : Nat) : Int), iv (i : Int)])).set L lb := ⟨_, rfl⟩
    rw [← hV4] at A3
    have j0 : V₄ L = some lb := by rw [hV4]; exact View.set_same _ _ _
    have jo : V₄ bo = some (.row [x]) := by rw [hV4, View.set_other _ _ (by assumption), View.set_other _ _ (View.ne_of ko nkc2)]; exact ko
    have jb : V₄ bb = some (.row [pt b 0]) := by rw [hV4, View.set_other _ _ (by assumption), View.set_other _ _ (View.ne_of kb nkc2)]; exact kb
    have j1 : V₄ b1 = some (.row [pt b 0]) := by rw [hV4, View.set_other _ _ (by assumption), View.set_other _ _ (View.ne_of k1 nkc2)]; exact k1
    have jk : V₄ kc = some (.row [iv ((o + 1 : Nat) : Int), iv (i : Int)]) := by rw [hV4, View.set_other _ _ (View.ne_of k0 nkc2).symm]; exact View.set_same _ _ _
    have jl : V.le V₄ := by rw [hV4]; exact View.le_set (View.le_set kl (View.le_none kl nkc2)) vL
    have gl := View.le_trans jl (accLe A3)
    clear hV4 hW2 hW' hW A2 A1 q0
    refine a_block ?_
    refine a_seq (a_region ?_)
    refine a_v rfl (s_move (ev_t rfl)) ?_
    refine a_v rfl (s_cmp (ev_t rfl) ev_c rfl) ?_
    refine a_v rfl (s_assign ev_c) ?_
    refine a_v rfl (s_assign (ev_t rfl)) ?_
    refine a_nil ?_
    refine a_seq (a_seq (a_region ?_))
    refine a_v rfl (s_load Try.sh66 (ev_t rfl) (accLe A3 _ _ jb) rfl) ?_
    refine a_v rfl (s_nilCheck (ev_t rfl)) ?_
    refine a_v rfl (s_fieldAddr Try.f122_2 rfl (ev_t rfl)) ?_
    refine a_v rfl (s_load Try.sh120 (ev_t rfl) (gl _ _ O.row) rfl) ?_
    refine a_v rfl (s_lenA Try.us120 (ev_t rfl) (rowMono hM0 gl)) ?_
    refine a_v rfl (s_assign (ev_t rfl)) ?_
    refine a_nil ?_
    refine a_seq (a_region ?_)
    refine a_v rfl (s_move (ev_t rfl)) ?_
    refine a_v rfl (s_cmp (ev_t rfl) ev_c rfl) ?_
    refine a_nil ?_
    refine a_cond (ev_t rfl) (fun hc => ?_) (fun hc => a_skip ?_)
    rotate_left
    · have hnil : ss = [] := by
        match ss, hc with
        | s :: t, hc => simp at hc
        | [], _ => rfl
      subst hnil
      have hch : ((c o i != 0) = true → (since [] o i ≠ c o i ∧ since [] = Ce0)) ∧ (since [] o i ≠ c o i → (c o i != 0) = true) := by
        refine ⟨fun h => ⟨fun e => ?_, rfl⟩, fun h => ?_⟩
        · have : c o i = 0 := e.symm
          simp [this] at h
        · have : c o i ≠ 0 := fun e => h e.symm
          simpa using this
      repeat first | refine thenA_n ?_
      refine a_seq (a_region ?_)
      refine a_v rfl (s_move (ev_t rfl)) ?_
      refine a_nil ?_
      refine a_cond (ev_t rfl) (fun hc2 => ?_) (fun hc2 => a_skip ?_)
      · obtain ⟨hne, -⟩ := hch.1 hc2
        have hcell : chgCell (since []) c o i = some (chgV (since []) c o i) := by unfold chgCell; rw [if_pos hne]
        refine a_region ?_
        refine a_v rfl (s_load Try.sh72 (ev_t rfl) (accLe A3 _ _ jo) rfl) ?_
        refine a_v rfl (s_fieldAddr Try.f124_0 rfl (ev_t rfl)) ?_
        refine a_v rfl (s_load Try.sh3 (ev_t rfl) (accLe A3 _ _ jk) rfl) ?_
        refine a_v rfl (s_fieldAddr Try.f124_1 rfl (ev_t rfl)) ?_
        refine a_v rfl (s_load Try.sh3 (ev_t rfl) (accLe A3 _ _ jk) rfl) ?_
        refine a_v rfl (s_move (ev_t rfl)) ?_
        refine a_v rfl (s_move (ev_t rfl)) ?_
        refine a_v rfl (s_build Try.z74 Try.pl74 (.cons (ev_t rfl) (.cons (ev_t rfl) (.cons (ev_t rfl) (.cons (ev_t rfl) .nil)))) rfl) ?_
        refine a_v rfl (s_litx Try.sl72 Try.z74 rfl rfl (.cons (ev_t rfl) .nil) rfl rfl rfl) ?_
        refine a_vp rfl (s_acc Try.sl72 Try.src72 Try.z74 rfl Try.by74 (ev_t rfl) A3 (src_one (x := chgV (since []) c o i) (ev_t rfl) rfl rfl) rfl (by omega) (by omega)) fun xv Vv hx => ?_
        have A49 := hx
        obtain ⟨u49, rfl, hu49⟩ := accVal A49
        refine a_s (s_storew Try.sh72 (ev_t rfl) (ev_t rfl) (accLe A49 _ _ jo) hu49 rfl (by first | decide | (simp; done) | (simp; omega)) (cs' := [.v u49]) rfl) ?_
        refine a_nil ?_
        have A4 := accUpd' A49 bo (.row [.v u49]) jo
        have j0n : (V₄.set bo (.row [.v u49])) L = some lb := by rw [View.set_other _ _ (by assumption)]; exact j0
        have jon : (V₄.set bo (.row [.v u49])) bo = some (.row [.v u49]) := View.set_same _ _ _
        have jbn : (V₄.set bo (.row [.v u49])) bb = some (.row [pt b 0]) := by rw [View.set_other _ _ (by assumption)]; exact jb
        have j1n : (V₄.set bo (.row [.v u49])) b1 = some (.row [pt b 0]) := by rw [View.set_other _ _ (by assumption)]; exact j1
        have jln : V.le (V₄.set bo (.row [.v u49])) := View.le_set jl vbo
        have gL2 := accLe A4 _ _ j0n
        repeat first | refine thenA_x ?_ | refine blockA_hit ?_ | refine blockA_x (by decide) ?_
        have A5 := accUpd' A4 L lo (o' := lb) j0n
        have gL := accLe A4 _ _ j0n
        refine ⟨⟨.busy, none, by rw [hlb]; exact gL2⟩, rfl, .v u49, _, by rw [hlo]; exact (accCast A5 (by rw [chgU_succ, hcell]; simp) (by rw [chgU_succ, hcell]; simp)), View.set_same _ _ _, ?_, ?_, ?_, ?_⟩
        · rw [View.set_other _ _ (by assumption)]; exact jon
        · rw [View.set_other _ _ (by assumption)]; exact jbn
        · rw [View.set_other _ _ (by assumption)]; exact j1n
        · exact View.le_set jln vL
      have hcell : chgCell (since []) c o i = none := by
        unfold chgCell
        rw [if_neg (fun h => by have := hch.2 h; rw [this] at hc2; cases hc2)]
      repeat first | refine thenA_x ?_ | refine blockA_hit ?_ | refine blockA_x (by decide) ?_
      have A5 := accUpd' A3 L lo (o' := lb) j0
      have gL := accLe A3 _ _ j0
      refine ⟨⟨.busy, none, by rw [hlb]; exact gL⟩, rfl, x, _, by rw [hlo]; exact (accCast A5 (by rw [chgU_succ, hcell]; simp) (by rw [chgU_succ, hcell]; simp)), View.set_same _ _ _, ?_, ?_, ?_, ?_⟩
      · rw [View.set_other _ _ (by assumption)]; exact jo
      · rw [View.set_other _ _ (by assumption)]; exact jb
      · rw [View.set_other _ _ (by assumption)]; exact j1
      · exact View.le_set jl vL
    obtain ⟨s, t, rfl⟩ : ∃ s t, ss = s :: t := by
      match ss, hc with
      | s :: t, _ => exact ⟨s, t, rfl⟩
      | [], hc => simp at hc
    obtain ⟨bm, cm, ms, bt, hxm, hms, hbm, hbt, hbtb, _⟩ := O.top s t rfl
    have htl : t.length ≤ 63 := by simp at hss; omega
    obtain ⟨q, y, hq, hget⟩ : ∃ (q : Bool) (y : Int), ((q = true ∧ s o i ≠ c o i ∧ y = s o i) ∨ (q = false ∧ s o i = c o i)) ∧ ((q = true ∧ (K2 o i, iv y) ∈ dif s c) ∨ (q = false ∧ (∀ p ∈ dif s c, p.1 ≠ K2 o i) ∧ iv y = .v (.int .i64 0))) := by
      by_cases h : s o i = c o i
      · exact ⟨false, 0, .inr ⟨rfl, h⟩, .inr ⟨rfl, dif_no h, rfl⟩⟩
      · exact ⟨true, s o i, .inl ⟨rfl, h, rfl⟩, .inl ⟨rfl, dif_in ho (by omega) h⟩⟩
    have hch : (q = true → (since (s :: t) o i ≠ c o i ∧ y = s o i)) ∧ (since (s :: t) o i ≠ c o i → q = true) := by
      refine ⟨fun h => ?_, fun h => ?_⟩
      · rcases hq with ⟨_, h1, h2⟩ | ⟨h1, _⟩
        · exact ⟨h1, h2⟩
        · rw [h1] at h; cases h
      · rcases hq with ⟨h1, _⟩ | ⟨_, h1⟩
        · exact h1
        · exact absurd h1 h
    refine a_draw [false, false, false, false, false, false, false, false, false, false, false, false, false, false, false, false] (_) Try.mixed rfl (by kernel_rfl) (View.le_refl _) ?_
    refine d_v (fun V' hU => f_plain rfl (s_load Try.sh66 (ev_o rfl rfl) (hU _ _ (accLe A3 _ _ jb)) rfl)) ?_
    refine d_v (fun V' hU => f_plain rfl (s_nilCheck (ev_o rfl rfl))) ?_
    refine d_v (fun V' hU => f_plain rfl (s_fieldAddr Try.f122_2 rfl (ev_o rfl rfl))) ?_
    refine d_v (fun V' hU => f_plain rfl (s_load Try.sh120 (ev_o rfl rfl) (hU _ _ (gl _ _ O.row)) (by rw [hxm]; rfl))) ?_
    refine d_v (fun V' hU => f_plain rfl (s_move (ev_o rfl rfl))) ?_
    refine d_v (fun V' hU => f_plain rfl (OpS.cast (congrArg iv (by simp : _ = ((t.length : Nat) : Int))) (s_sub (ev_o rfl rfl) ev_c (by first | omega | (simp; done) | (simp; omega)) (by first | omega | (simp; done) | (simp; omega))))) ?_
    refine d_v (fun V' hU => f_plain rfl (s_idxs Try.sl120 (ev_o rfl rfl) (ev_o rfl rfl) (by omega) (by first | omega | (simp; done) | (simp; omega)))) ?_
    refine d_v (fun V' hU => f_plain rfl (s_fieldAddr Try.f128_0 rfl (ev_o rfl rfl))) ?_
    refine d_v (fun V' hU => f_plain rfl (s_load Try.sh126 (ev_o rfl rfl) (hU _ _ (gl _ _ hbm)) (rowM_get1 (by omega)))) ?_
    refine d_v (fun V' hU => f_plain rfl (s_load Try.sh124 (ev_o rfl rfl) (hU _ _ (accLe A3 _ _ jk)) rfl)) ?_
    refine d_v (fun V' hU => f_plain rfl (s_mapget2 (k := K2 o i) (x := iv y) (r := q) Try.um126 Try.kl Try.z2 (hU _ _ (gl _ _ hbt)) (okKdif _ _) (ev_o rfl rfl) (ev_agg (us := kv o i) (ev_o rfl rfl)) (okK2 ho (by omega)) hget)) ?_
    refine d_v (fun V' hU => f_plain rfl (s_move (ev_o rfl rfl))) ?_
    refine d_v (fun V' hU => f_plain rfl (s_extract (ev_o rfl rfl) rfl)) ?_
    refine d_v (fun V' hU => f_plain rfl (s_extract (ev_o rfl rfl) rfl)) ?_
    refine d_v (fun V' hU => f_plain rfl (s_assign (ev_o rfl rfl))) ?_
    refine d_v (fun V' hU => f_plain rfl (s_assign (ev_o rfl rfl))) ?_
    refine d_nil ?_
    repeat first | refine thenA_x ?_ | refine blockA_hit ?_ | refine blockA_x (by decide) ?_
    refine a_seq (a_region ?_)
    refine a_v rfl (s_move (ev_t rfl)) ?_
    refine a_nil ?_
    refine a_cond (ev_t rfl) (fun hc2 => ?_) (fun hc2 => a_skip ?_)
    · obtain ⟨hne, rfl⟩ := hch.1 hc2
      have hcell : chgCell (since (s :: t)) c o i = some (chgV (since (s :: t)) c o i) := by unfold chgCell; rw [if_pos hne]
      refine a_region ?_
      refine a_v rfl (s_load Try.sh72 (ev_t rfl) (accLe A3 _ _ jo) rfl) ?_
      refine a_v rfl (s_fieldAddr Try.f124_0 rfl (ev_t rfl)) ?_
      refine a_v rfl (s_load Try.sh3 (ev_t rfl) (accLe A3 _ _ jk) rfl) ?_
      refine a_v rfl (s_fieldAddr Try.f124_1 rfl (ev_t rfl)) ?_
      refine a_v rfl (s_load Try.sh3 (ev_t rfl) (accLe A3 _ _ jk) rfl) ?_
      refine a_v rfl (s_move (ev_t rfl)) ?_
      refine a_v rfl (s_move (ev_t rfl)) ?_
      refine a_v rfl (s_build Try.z74 Try.pl74 (.cons (ev_t rfl) (.cons (ev_t rfl) (.cons (ev_t rfl) (.cons (ev_t rfl) .nil)))) rfl) ?_
      refine a_v rfl (s_litx Try.sl72 Try.z74 rfl rfl (.cons (ev_t rfl) .nil) rfl rfl rfl) ?_
      refine a_vp rfl (s_acc Try.sl72 Try.src72 Try.z74 rfl Try.by74 (ev_t rfl) A3 (src_one (x := chgV (since (s :: t)) c o i) (ev_t rfl) rfl rfl) rfl (by omega) (by omega)) fun xv Vv hx => ?_
      have A49 := hx
      obtain ⟨u49, rfl, hu49⟩ := accVal A49
      refine a_s (s_storew Try.sh72 (ev_t rfl) (ev_t rfl) (accLe A49 _ _ jo) hu49 rfl (by first | decide | (simp; done) | (simp; omega)) (cs' := [.v u49]) rfl) ?_
      refine a_nil ?_
      have A4 := accUpd' A49 bo (.row [.v u49]) jo
      have j0n : (V₄.set bo (.row [.v u49])) L = some lb := by rw [View.set_other _ _ (by assumption)]; exact j0
      have jon : (V₄.set bo (.row [.v u49])) bo = some (.row [.v u49]) := View.set_same _ _ _
      have jbn : (V₄.set bo (.row [.v u49])) bb = some (.row [pt b 0]) := by rw [View.set_other _ _ (by assumption)]; exact jb
      have j1n : (V₄.set bo (.row [.v u49])) b1 = some (.row [pt b 0]) := by rw [View.set_other _ _ (by assumption)]; exact j1
      have jln : V.le (V₄.set bo (.row [.v u49])) := View.le_set jl vbo
      have gL2 := accLe A4 _ _ j0n
      repeat first | refine thenA_x ?_ | refine blockA_hit ?_ | refine blockA_x (by decide) ?_
      have A5 := accUpd' A4 L lo (o' := lb) j0n
      have gL := accLe A4 _ _ j0n
      refine ⟨⟨.busy, none, by rw [hlb]; exact gL2⟩, rfl, .v u49, _, by rw [hlo]; exact (accCast A5 (by rw [chgU_succ, hcell]; simp) (by rw [chgU_succ, hcell]; simp)), View.set_same _ _ _, ?_, ?_, ?_, ?_⟩
      · rw [View.set_other _ _ (by assumption)]; exact jon
      · rw [View.set_other _ _ (by assumption)]; exact jbn
      · rw [View.set_other _ _ (by assumption)]; exact j1n
      · exact View.le_set jln vL
    have hcell : chgCell (since (s :: t)) c o i = none := by
      unfold chgCell
      rw [if_neg (fun h => by have := hch.2 h; rw [this] at hc2; cases hc2)]
    repeat first | refine thenA_x ?_ | refine blockA_hit ?_ | refine blockA_x (by decide) ?_
    have A5 := accUpd' A3 L lo (o' := lb) j0
    have gL := accLe A3 _ _ j0
    refine ⟨⟨.busy, none, by rw [hlb]; exact gL⟩, rfl, x, _, by rw [hlo]; exact (accCast A5 (by rw [chgU_succ, hcell]; simp) (by rw [chgU_succ, hcell]; simp)), View.set_same _ _ _, ?_, ?_, ?_, ?_⟩
    · rw [View.set_other _ _ (by assumption)]; exact jo
    · rw [View.set_other _ _ (by assumption)]; exact jb
    · rw [View.set_other _ _ (by assumption)]; exact j1
    · exact View.le_set jl vL
  · rintro o V' ho ⟨x, V₂, A, h⟩
    refine ⟨x, V₂, ?_, h⟩
    rw [chgU_row]; exact A
  · rintro V₁ ⟨x, V₂, A1, k0, ko, kb, k1, kl⟩
    refine ⟨.ready, none, by rw [accLe A1 _ _ k0, ← hlo], by simp, ?_⟩
    have A2 := accDrop A1 k0
    refine a_acc_row1 A2 rfl rfl (chgU_good _ _ _ _ _) (b := bo) (N := none) (by rw [View.drop_other _ (by assumption)]; exact ko) ?_
    refine a_seq (a_region ?_)
    refine a_v rfl (s_load Try.sh72 (ev_t rfl) (View.set_same _ _ _) rfl) ?_
    refine a_v rfl (s_assign (ev_t rfl)) ?_
    refine a_nil ?_
    refine a_ret ?_
    refine ⟨[_], V, ⟨_, _, rfl, ev_t rfl, rfl⟩, ?_, rfl, rfl⟩
    exact View.le_set (View.le_drop kl vL) vbo
#print axioms mk_changes
end Go.Proofs
