/- Frames and records: the walk through forms one after the other. -/
import Derived.Test.YtapelipehckbcaaFrD
set_option linter.unusedVariables false
set_option linter.unusedSimpArgs false
namespace Go.AV
abbrev fnv (f b : Nat) : AVal := .v (.func (.func f) #[] #[.pointer (some ⟨b, 0, none⟩)])
abbrev yv (L : Nat) : AVal := .v (.func (.yield L) #[] #[])
theorem formsF_drop {l : List Nat} {i : Nat} (hi : i < l.length) : formsF (l.drop i) = form l[i] ++ formsF (l.drop (i + 1)) := by rw [List.drop_eq_getElem_cons hi]; rfl
theorem formsF_split (l : List Nat) (i : Nat) : formsF l = formsF (l.take i) ++ formsF (l.drop i) := by
  rw [formsF, formsF, formsF, ← List.flatMap_append, List.take_append_drop]
theorem formsF_take {l : List Nat} {i : Nat} (hi : i < l.length) : formsF (l.take (i + 1)) = formsF (l.take i) ++ form l[i] := by
  unfold formsF; rw [List.take_succ_eq_append_getElem hi, List.flatMap_append]; simp
theorem formsF_at (l : List Nat) (i : Nat) : (formsF l).drop (formsF (l.take i)).length = formsF (l.drop i) := by
  rw [formsF_split l i, List.drop_left' rfl]
theorem formsF_len {l : List Nat} (hx : ∀ x ∈ l, x < 18446744073709551616) : l.length ≤ (formsF l).length ∧ (formsF l).length ≤ 9 * l.length := by
  induction l with
  | nil => simp [formsF]
  | cons a l ih =>
    have h1 := form_len (hx a (by simp))
    have h2 := ih (fun x h => hx x (by simp [h]))
    simp only [formsF, List.flatMap_cons, List.length_append, List.length_cons] at h2 ⊢
    omega
end Go.AV
namespace Go.Proofs
open Go.AV
theorem fr_forms0 (b : List UInt8) (V : View) : ACalls Try.prog 57 [.tree 1 (byT b)] V fun x V' => ∃ b1, V b1 = none ∧ x = fnv 71 b1 ∧ V' = V.set b1 (.row [.tree 1 (byT b)]) := by
  refine a_fn (fn := Try.f57) Try.func57 rfl ?_ rfl
  refine a_seq (a_region ?_)
  refine a_vp rfl (s_box (ev_t rfl) rfl) fun xv Vv hx => ?_
  obtain ⟨b1, nb1, rfl, rfl⟩ := hx
  have vb1 : V b1 = none := by simpa [View.set, ] using nb1
  refine a_v rfl (s_assign ev_c) ?_
  refine a_nil ?_
  refine a_seq (a_region ?_)
  refine a_v rfl (s_makeFunc (us := []) (vs := [_]) rfl ⟨_, _, rfl, (ev_t rfl), rfl⟩) ?_
  refine a_v rfl (s_assign (ev_t rfl)) ?_
  refine a_nil ?_
  refine a_ret ?_
  exact ⟨[_], _, ⟨_, _, rfl, ev_t rfl, rfl⟩, View.le_refl _, b1, nb1, rfl, rfl⟩
theorem fr_forms1 {b : List UInt8} {L b1 : Nat} {V : View} {Post : View → Prop} (K : Nat → View → Prop) (hb : b.length ≤ 1099511627776)
    (h1 : V b1 = some (.row [.tree 1 (byT b)])) (hV : K 0 V)
    (hy : ∀ at' V, at' < b.length → K at' V → V b1 = some (.row [.tree 1 (byT b)]) → AYield Try.prog L [uv (readF (b.drop at')).1, iv (readF (b.drop at')).2.2] V fun x V' => V' b1 = some (.row [.tree 1 (byT b)]) ∧ ∃ r : Bool, x = bv r ∧
      ((r = true ∧ (readF (b.drop at')).2.2 = 0) → K (at' + (readF (b.drop at')).2.1) V') ∧ (¬ (r = true ∧ (readF (b.drop at')).2.2 = 0) → Post V'))
    (hend : ∀ V, K b.length V → Post V) : ACalls Try.prog 71 [yv L, pt b1 0] V fun _ V' => Post V' := by
  refine a_fn (fn := Try.f71) Try.func71 rfl ?_ rfl
  refine a_seq (a_region ?_)
  refine a_v rfl (s_assign ev_c) ?_
  refine a_nil ?_
  refine a_block ?_
  refine a_loop (fun n st V' => ∃ (at' : Nat) (l : List (Nat × AVal)), b.length - at' = n ∧ at' ≤ b.length ∧ st = ⟨l, 30⟩ ∧ SubT [(0, yv L), (1, pt b1 0), (3, iv at')] l ∧ V' b1 = some (.row [.tree 1 (byT b)]) ∧ K at' V') ?_ b.length _ _ ⟨0, _, rfl, by omega, rfl, ⟨rfl, rfl, rfl, trivial⟩, h1, hV⟩
  rintro n st W ⟨at', l, rfl, ha, rfl, hs, g1, hK⟩
  refine a_forget hs ?_
  refine a_seq (a_seq (a_region ?_))
  refine a_v rfl (s_move (ev_t rfl)) ?_
  refine a_v rfl (s_load Try.sh39 (ev_t rfl) (by simp [View.set, View.drop, g1] <;> first | exact ⟨rfl, rfl⟩ | exact rfl) rfl) ?_
  refine a_v rfl (s_leny Try.us39 (ev_t rfl)) ?_
  refine a_v rfl (s_cmp (ev_t rfl) (ev_t rfl) rfl) ?_
  refine a_nil ?_
  refine a_cond (ev_t rfl) (fun hc => a_skip ?_) (fun hc => a_exit ?_)
  · have ha' : at' < b.length := by simp at hc; omega
    have hn := readF_n (b.drop at')
    simp only [List.length_drop] at hn
    refine a_block ?_
    refine a_seq (a_region ?_)
    refine a_v rfl (s_load Try.sh39 (ev_t rfl) (by simp [View.set, View.drop, g1] <;> first | exact ⟨rfl, rfl⟩ | exact rfl) rfl) ?_
    refine a_v rfl (s_move (ev_t rfl)) ?_
    refine a_v rfl (s_call Try.okF72 ev_f (.cons (ev_t rfl) (.cons (ev_t rfl) .nil)) (fr_read (by omega) (by omega) _)) ?_
    refine a_v rfl (s_move (ev_t rfl)) ?_
    refine a_v rfl (s_extract (ev_t rfl) rfl) ?_
    refine a_v rfl (s_extract (ev_t rfl) rfl) ?_
    refine a_v rfl (s_extract (ev_t rfl) rfl) ?_
    refine a_v rfl (s_assign (ev_t rfl)) ?_
    refine a_v rfl (s_assign (ev_t rfl)) ?_
    refine a_v rfl (s_assign (ev_t rfl)) ?_
    refine a_nil ?_
    refine a_seq (a_seq (a_region ?_))
    refine a_v rfl (s_move (ev_t rfl)) ?_
    refine a_v rfl (s_move (ev_t rfl)) ?_
    refine a_v rfl (s_move (ev_t rfl)) ?_
    refine a_vp rfl (s_yield (ev_t rfl) (.cons (ev_t rfl) (.cons (ev_t rfl) .nil)) (hy at' _ ha' hK g1)) fun xv Vv hx => ?_
    obtain ⟨q1, r, rfl, hT, hF⟩ := hx
    refine a_v rfl (s_not (ev_t rfl)) ?_
    refine a_v rfl (s_move (ev_t rfl)) ?_
    refine a_f rfl (f_guard rfl (gd_b rfl (ev_t rfl)) fun h5 => s_move (ev_t rfl)) ?_
    refine a_f rfl (f_guard rfl (gd_b rfl (ev_t rfl)) fun h5 => s_cmp (ev_cond (ev_t rfl) h5) ev_c rfl) ?_
    refine a_v rfl (s_pickor (ev_t rfl) (ev_t rfl)) ?_
    refine a_nil ?_
    refine a_cond (ev_t rfl) (fun hc => a_ret ?_) (fun hc => a_skip ?_)
    · refine ⟨[], _, rfl, View.le_refl _, hF ?_⟩
      rintro ⟨h2, h3⟩
      simp [h2, h3] at hc
    have hz : r = true ∧ (readF (b.drop at')).2.2 = 0 := by simpa using hc
    have hn1 := hn.2.2 hz.2
    refine a_region ?_
    refine a_v rfl (s_move (ev_t rfl)) ?_
    refine a_v rfl (s_move (ev_t rfl)) ?_
    refine a_v rfl (s_add (ev_t rfl) (ev_t rfl) (by omega) (by omega)) ?_
    refine a_v rfl (s_assign (ev_t rfl)) ?_
    refine a_nil ?_
    exact ⟨b.length - (at' + (readF (b.drop at')).2.1), by omega, at' + (readF (b.drop at')).2.1, _, rfl, by omega, rfl, ⟨rfl, rfl, rfl, trivial⟩, q1, hT hz⟩
  repeat first | refine thenA_x ?_ | refine blockA_hit ?_ | refine blockA_x (by decide) ?_
  have ha' : at' = b.length := by simp at hc; omega
  subst ha'
  exact ⟨[], _, rfl, View.le_refl _, hend _ hK⟩
#print axioms fr_forms1
theorem fr_split {ns : List Nat} (hl : ns.length ≤ 1000000) (hx : ∀ x ∈ ns, x < 18446744073709551616) (V : View) : ACalls Try.prog 38 [.tree 1 (byT (formsF ns))] V (One (.tuple [.tree 1 (uvs ns), iv 0]) V) := by
  have hfl := formsF_len hx
  refine a_fn (fn := Try.f38) Try.func38 rfl ?_ rfl
  refine a_seq (a_region ?_)
  refine a_vp rfl (s_alloc Try.z40) fun xv Vv hx => ?_
  obtain ⟨b2, nb2, rfl, rfl⟩ := hx
  have vb2 : V b2 = none := by simpa [View.set, ] using nb2
  refine a_vp rfl (s_alloc Try.z53) fun xv Vv hx => ?_
  obtain ⟨b3, nb3, rfl, rfl⟩ := hx
  have eb3b2 : ¬ b3 = b2 := by rintro rfl; simp [View.set, vb2] at nb3
  have eb3b2' : ¬ b2 = b3 := fun h => eb3b2 h.symm
  have vb3 : V b3 = none := by simpa [View.set, vb2, eb3b2, eb3b2'] using nb3
  refine a_nil ?_
  refine a_seq (a_region ?_)
  refine a_vp rfl (s_alloc Try.z40) fun xv Vv hx => ?_
  obtain ⟨b4, nb4, rfl, rfl⟩ := hx
  have eb4b2 : ¬ b4 = b2 := by rintro rfl; simp [View.set, vb2, eb3b2, eb3b2', vb3] at nb4
  have eb4b2' : ¬ b2 = b4 := fun h => eb4b2 h.symm
  have eb4b3 : ¬ b4 = b3 := by rintro rfl; simp [View.set, vb2, eb3b2, eb3b2', vb3, eb4b2, eb4b2'] at nb4
  have eb4b3' : ¬ b3 = b4 := fun h => eb4b3 h.symm
  have vb4 : V b4 = none := by simpa [View.set, vb2, eb3b2, eb3b2', vb3, eb4b2, eb4b2', eb4b3, eb4b3'] using nb4
  refine a_nil ?_
  refine a_seq (a_seq (a_region ?_))
  refine a_v rfl (s_move (ev_t rfl)) ?_
  refine a_vp rfl (s_call Try.okF57 ev_f (.cons (ev_t rfl) .nil) (fr_forms0 _ _)) fun xv Vv hx => ?_
  obtain ⟨b1, nb1, rfl, rfl⟩ := hx
  refine a_nil ?_
  have eb1b2 : ¬ b1 = b2 := by rintro rfl; simp [View.set, vb2, eb3b2, eb3b2', vb3, eb4b2, eb4b2', eb4b3, eb4b3', vb4] at nb1
  have eb1b2' : ¬ b2 = b1 := fun h => eb1b2 h.symm
  have eb1b3 : ¬ b1 = b3 := by rintro rfl; simp [View.set, vb2, eb3b2, eb3b2', vb3, eb4b2, eb4b2', eb4b3, eb4b3', vb4, eb1b2, eb1b2'] at nb1
  have eb1b3' : ¬ b3 = b1 := fun h => eb1b3 h.symm
  have eb1b4 : ¬ b1 = b4 := by rintro rfl; simp [View.set, vb2, eb3b2, eb3b2', vb3, eb4b2, eb4b2', eb4b3, eb4b3', vb4, eb1b2, eb1b2', eb1b3, eb1b3'] at nb1
  have eb1b4' : ¬ b4 = b1 := fun h => eb1b4 h.symm
  have vb1 : V b1 = none := by simpa [View.set, vb2, eb3b2, eb3b2', vb3, eb4b2, eb4b2', eb4b3, eb4b3', vb4, eb1b2, eb1b2', eb1b3, eb1b3', eb1b4, eb1b4'] using nb1
  refine a_block ?_
  refine a_range (fs := []) (cap := [_]) Try.okF71 (ev_t rfl) fun L nL => ?_
  generalize hlo : AObj.loop LoopState.ready none _ _ _ _ = lo
  have eLb2 : ¬ L = b2 := by rintro rfl; simp [View.set, vb2, eb3b2, eb3b2', vb3, eb4b2, eb4b2', eb4b3, eb4b3', vb4, eb1b2, eb1b2', eb1b3, eb1b3', eb1b4, eb1b4', vb1] at nL
  have eLb2' : ¬ b2 = L := fun h => eLb2 h.symm
  have eLb3 : ¬ L = b3 := by rintro rfl; simp [View.set, vb2, eb3b2, eb3b2', vb3, eb4b2, eb4b2', eb4b3, eb4b3', vb4, eb1b2, eb1b2', eb1b3, eb1b3', eb1b4, eb1b4', vb1, eLb2, eLb2'] at nL
  have eLb3' : ¬ b3 = L := fun h => eLb3 h.symm
  have eLb4 : ¬ L = b4 := by rintro rfl; simp [View.set, vb2, eb3b2, eb3b2', vb3, eb4b2, eb4b2', eb4b3, eb4b3', vb4, eb1b2, eb1b2', eb1b3, eb1b3', eb1b4, eb1b4', vb1, eLb2, eLb2', eLb3, eLb3'] at nL
  have eLb4' : ¬ b4 = L := fun h => eLb4 h.symm
  have eLb1 : ¬ L = b1 := by rintro rfl; simp [View.set, vb2, eb3b2, eb3b2', vb3, eb4b2, eb4b2', eb4b3, eb4b3', vb4, eb1b2, eb1b2', eb1b3, eb1b3', eb1b4, eb1b4', vb1, eLb2, eLb2', eLb3, eLb3', eLb4, eLb4'] at nL
  have eLb1' : ¬ b1 = L := fun h => eLb1 h.symm
  have vL : V L = none := by simpa [View.set, vb2, eb3b2, eb3b2', vb3, eb4b2, eb4b2', eb4b3, eb4b3', vb4, eb1b2, eb1b2', eb1b3, eb1b3', eb1b4, eb1b4', vb1, eLb2, eLb2', eLb3, eLb3', eLb4, eLb4', eLb1, eLb1'] using nL
  refine fr_forms1 (b := formsF ns) (fun at' V₁ => ∃ (i : Nat) (x : AVal) (V₂ : View), i ≤ ns.length ∧ at' = (formsF (ns.take i)).length ∧ Acc V₁ x 1 i (uvs (ns.take i)) V₂ ∧ V₂ L = some lo ∧ V₂ b4 = some (.row [x]) ∧ V₂ b3 = some (.row [iv 0]) ∧ V₂ b2 = some (.row [.v (.slice none 0 0)]) ∧ V₂ b1 = some (.row [.tree 1 (byT (formsF ns))]) ∧ View.le V V₂) (by omega) ?_ ?_ ?_ ?_
  · simp [View.set, vb2, eb3b2, eb3b2', vb3, eb4b2, eb4b2', eb4b3, eb4b3', vb4, eb1b2, eb1b2', eb1b3, eb1b3', eb1b4, eb1b4', vb1, eLb2, eLb2', eLb3, eLb3', eLb4, eLb4', eLb1, eLb1', vL]
  · refine ⟨0, .v (.slice none 0 0), _, by omega, by simp [formsF], accNil, View.set_same _ _ _, ?_, ?_, ?_, ?_, ?_⟩
    all_goals first | (simp [View.set, vb2, eb3b2, eb3b2', vb3, eb4b2, eb4b2', eb4b3, eb4b3', vb4, eb1b2, eb1b2', eb1b3, eb1b3', eb1b4, eb1b4', vb1, eLb2, eLb2', eLb3, eLb3', eLb4, eLb4', eLb1, eLb1', vL]; done) | (simp [View.set, vb2, eb3b2, eb3b2', vb3, eb4b2, eb4b2', eb4b3, eb4b3', vb4, eb1b2, eb1b2', eb1b3, eb1b3', eb1b4, eb1b4', vb1, eLb2, eLb2', eLb3, eLb3', eLb4, eLb4', eLb1, eLb1', vL]; rfl) | skip
    repeat refine View.le_set ?_ (by assumption)
    exact View.le_refl _
  · rintro at' V₁ hat ⟨i, x, V₂, hi, rfl, A1, k0, k4, k3, k2, k1, kl⟩ -
    have hi' : i < ns.length := by
      rcases Nat.lt_or_ge i ns.length with h | h
      · exact h
      · rw [List.take_of_length_le h] at hat; omega
    have hrd : readF ((formsF ns).drop (formsF (ns.take i)).length) = (ns[i], (form ns[i]).length, 0) := by
      rw [formsF_at, formsF_drop hi']; exact readF_form (hx _ (List.getElem_mem hi')) _
    rw [hrd]
    have g0 := accLe A1 _ _ k0
    have g4 := accLe A1 _ _ k4
    have g3 := accLe A1 _ _ k3
    have g2 := accLe A1 _ _ k2
    have g1 := accLe A1 _ _ k1
    refine a_round (pend := none) (by rw [g0, ← hlo]) rfl rfl ?_
    refine a_seq (a_region ?_)
    refine a_v rfl (s_assign (ev_t rfl)) ?_
    refine a_nil ?_
    refine a_region ?_
    refine a_v rfl (s_assign (ev_t rfl)) ?_
    refine a_nil ?_
    refine ⟨by rw [g0, ← hlo], ?_⟩
    generalize hlb : AObj.loop LoopState.busy none _ _ _ _ = lb
    have A2 := accUpd A1 lb k0
    refine a_block ?_
    refine a_seq (a_seq (a_region ?_))
    refine a_v rfl (s_move (ev_t rfl)) ?_
    refine a_v rfl (s_cmp (ev_t rfl) ev_c rfl) ?_
    refine a_nil ?_
    refine a_cond (ev_t rfl) (fun hc => ?_) (fun hc => a_skip ?_)
    · exfalso; simp at hc
    refine a_region ?_
    refine a_v rfl (s_load Try.sh40 (ev_t rfl) (by first | exact q4 | (simp [View.set, g0, g1, g2, g3, g4, k0, k1, k2, k3, k4, eb3b2, eb3b2', eb4b2, eb4b2', eb4b3, eb4b3', eb1b2, eb1b2', eb1b3, eb1b3', eb1b4, eb1b4', eLb2, eLb2', eLb3, eLb3', eLb4, eLb4', eLb1, eLb1'] <;> first | exact ⟨rfl, rfl⟩ | exact rfl)) rfl) ?_
    refine a_v rfl (s_move (ev_t rfl)) ?_
    refine a_v rfl (s_litx Try.sl40 Try.z45 rfl rfl (.cons (ev_t rfl) .nil) rfl rfl rfl) ?_
    refine a_vp rfl (s_acc Try.sl40 Try.src40 Try.z45 rfl Try.by45 (ev_t rfl) A2 (src_one (ev_t rfl) rfl rfl) rfl (by omega) (by omega)) fun xv Vv hx => ?_
    have A17 := hx
    obtain ⟨u17, rfl, hu17⟩ := accVal A17
    have q4 : Vv b4 = some (.row [x]) := accLe A17 _ _ (by simp [View.set, k4, eb3b2, eb3b2', eb4b2, eb4b2', eb4b3, eb4b3', eb1b2, eb1b2', eb1b3, eb1b3', eb1b4, eb1b4', eLb2, eLb2', eLb3, eLb3', eLb4, eLb4', eLb1, eLb1'])
    refine a_s (s_storew Try.sh40 (ev_t rfl) (ev_t rfl) (by first | exact q4 | (simp [View.set, g0, g1, g2, g3, g4, k0, k1, k2, k3, k4, eb3b2, eb3b2', eb4b2, eb4b2', eb4b3, eb4b3', eb1b2, eb1b2', eb1b3, eb1b3', eb1b4, eb1b4', eLb2, eLb2', eLb3, eLb3', eLb4, eLb4', eLb1, eLb1'] <;> first | exact ⟨rfl, rfl⟩ | exact rfl)) hu17 rfl (by first | decide | (simp; done) | (simp; omega)) (cs' := [.v u17]) rfl) ?_
    refine a_nil ?_
    have A3 := accUpd (accUpd (b := b4) A17 (.row [.v u17]) (o' := .row [x]) (by simp [View.set, k4, eb3b2, eb3b2', eb4b2, eb4b2', eb4b3, eb4b3', eb1b2, eb1b2', eb1b3, eb1b3', eb1b4, eb1b4', eLb2, eLb2', eLb3, eLb3', eLb4, eLb4', eLb1, eLb1'])) lo (b := L) (o' := lb) (by simp [View.set, eb3b2, eb3b2', eb4b2, eb4b2', eb4b3, eb4b3', eb1b2, eb1b2', eb1b3, eb1b3', eb1b4, eb1b4', eLb2, eLb2', eLb3, eLb3', eLb4, eLb4', eLb1, eLb1'])
    have g0' : Vv L = some lb := accLe A17 _ _ (View.set_same _ _ _)
    have g1' := accLe A3 b1 _ (by simp [View.set, k1, eb3b2, eb3b2', eb4b2, eb4b2', eb4b3, eb4b3', eb1b2, eb1b2', eb1b3, eb1b3', eb1b4, eb1b4', eLb2, eLb2', eLb3, eLb3', eLb4, eLb4', eLb1, eLb1'] <;> rfl)
    refine ⟨⟨.busy, none, by simp [View.set, g0', eb3b2, eb3b2', eb4b2, eb4b2', eb4b3, eb4b3', eb1b2, eb1b2', eb1b3, eb1b3', eb1b4, eb1b4', eLb2, eLb2', eLb3, eLb3', eLb4, eLb4', eLb1, eLb1']; exact hlb.symm⟩, by rw [hlo]; exact g1', true, rfl, fun _ => ⟨i + 1, .v u17, _, by omega, ?_, by rw [hlo]; exact accCast A3 rfl (by unfold uvs; rw [List.take_succ_eq_append_getElem hi', List.map_append]; rfl), View.set_same _ _ _, ?_, ?_, ?_, ?_, ?_⟩, fun h => absurd ⟨rfl, rfl⟩ h⟩
    · rw [formsF_take hi']; simp
    all_goals first | (simp [View.set, k1, k2, k3, k4, eb3b2, eb3b2', eb4b2, eb4b2', eb4b3, eb4b3', eb1b2, eb1b2', eb1b3, eb1b3', eb1b4, eb1b4', eLb2, eLb2', eLb3, eLb3', eLb4, eLb4', eLb1, eLb1']; done) | skip
    repeat refine View.le_set ?_ (by assumption)
    exact kl
  · rintro V₁ ⟨i, x, V₂, hi, he, A1, k0, k4, k3, k2, k1, kl⟩
    have hi' : i = ns.length := by
      rcases Nat.lt_or_ge i ns.length with h | h
      · exfalso
        have h1 := congrArg List.length (formsF_split ns i)
        have h2 := congrArg List.length (formsF_drop h)
        have h3 := form_len (hx _ (List.getElem_mem h))
        simp only [List.length_append] at h1 h2; omega
      · omega
    subst hi'
    rw [List.take_length] at A1
    refine ⟨.ready, none, by rw [accLe A1 _ _ k0, ← hlo], by simp, ?_⟩
    have A2 := accDrop A1 k0
    refine a_acc_row1 A2 (uvs_els _) (uvs_len _) (uvs_good _) (b := b4) (N := none) (by simp [View.drop, k4, eb3b2, eb3b2', eb4b2, eb4b2', eb4b3, eb4b3', eb1b2, eb1b2', eb1b3, eb1b3', eb1b4, eb1b4', eLb2, eLb2', eLb3, eLb3', eLb4, eLb4', eLb1, eLb1']) ?_
    refine a_seq (a_region ?_)
    refine a_v rfl (s_load Try.sh40 (ev_t rfl) (by simp [View.set, View.drop, k1, k2, k3, k4, eb3b2, eb3b2', eb4b2, eb4b2', eb4b3, eb4b3', eb1b2, eb1b2', eb1b3, eb1b3', eb1b4, eb1b4', eLb2, eLb2', eLb3, eLb3', eLb4, eLb4', eLb1, eLb1'] <;> first | exact ⟨rfl, rfl⟩ | exact rfl) rfl) ?_
    refine a_s (s_storew Try.sh40 (ev_t rfl) (ev_t rfl) (by simp [View.set, View.drop, k1, k2, k3, k4, eb3b2, eb3b2', eb4b2, eb4b2', eb4b3, eb4b3', eb1b2, eb1b2', eb1b3, eb1b3', eb1b4, eb1b4', eLb2, eLb2', eLb3, eLb3', eLb4, eLb4', eLb1, eLb1'] <;> first | exact ⟨rfl, rfl⟩ | exact rfl) rfl rfl (by first | decide | (simp; done) | (simp; omega)) (cs' := [.tree 1 (uvs ns)]) rfl) ?_
    refine a_s (s_storew Try.sh53 (ev_t rfl) ev_c (by simp [View.set, View.drop, k1, k2, k3, k4, eb3b2, eb3b2', eb4b2, eb4b2', eb4b3, eb4b3', eb1b2, eb1b2', eb1b3, eb1b3', eb1b4, eb1b4', eLb2, eLb2', eLb3, eLb3', eLb4, eLb4', eLb1, eLb1'] <;> first | exact ⟨rfl, rfl⟩ | exact rfl) rfl rfl (by first | decide | (simp; done) | (simp; omega)) (cs' := [iv 0]) rfl) ?_
    refine a_nil ?_
    refine a_ret ?_
    refine ⟨[_, _], V, ⟨_, _, false, 1, b2, 0, [.tree 1 (uvs ns)], none, rfl, Try.sh40, ev_t rfl, by simp [View.set, eb3b2, eb3b2', eb4b2, eb4b2', eb4b3, eb4b3', eb1b2, eb1b2', eb1b3, eb1b3', eb1b4, eb1b4', eLb2, eLb2', eLb3, eLb3', eLb4, eLb4', eLb1, eLb1'], rfl, _, _, false, 1, b3, 0, [iv 0], none, rfl, Try.sh53, ev_t rfl, by simp [View.set, eb3b2, eb3b2', eb4b2, eb4b2', eb4b3, eb4b3', eb1b2, eb1b2', eb1b3, eb1b3', eb1b4, eb1b4', eLb2, eLb2', eLb3, eLb3', eLb4, eLb4', eLb1, eLb1'], rfl, rfl⟩, ?_, rfl, rfl⟩
    repeat refine View.le_set ?_ (by assumption)
    exact View.le_drop kl (by assumption)
#print axioms fr_split
end Go.Proofs
