/- Frames and records: the walk through frames one after the other, and streams. -/
import Derived.Test.YtapelipehckbcaaFrG
set_option linter.unusedVariables false
set_option linter.unusedSimpArgs false
namespace Go.AV
/-- A stream: what it holds, how many frames it gave, is it dead. -/
def Str (V : View) (s : Nat) (held : List UInt8) (n : Nat) (dead : Bool) (V₀ : View) : Prop := ∃ x V₁, Acc V x 1 held.length (byT held) V₁ ∧ V₁ s = some (.row [bv true, x, iv n, bv dead]) ∧ V₁.drop s = V₀ ∧ V₀ s = none
end Go.AV
namespace Go.Proofs
open Go.AV
theorem fr_frames0 (b : List UInt8) (V : View) : ACalls Try.prog 75 [.tree 1 (byT b)] V fun x V' => ∃ b1, V b1 = none ∧ x = fnv 77 b1 ∧ V' = V.set b1 (.row [.tree 1 (byT b)]) := by
  refine a_fn (fn := Try.f75) Try.func75 rfl ?_ rfl
  refine a_seq (a_region ?_)
  refine a_vp rfl (s_box (ev_t rfl) rfl) fun xv Vv hx => ?_
  obtain ⟨b1, nb1, rfl, rfl⟩ := hx
  have vb1 : V b1 = none := by simpa [View.set, ] using nb1
  refine a_v rfl (s_assign ev_c) ?_
  refine a_nil ?_
  refine a_seq (a_region ?_)
  refine a_v rfl (s_makeFunc (us := []) (vs := [_]) rfl ⟨_, _, rfl, (ev_t rfl), rfl⟩) ?_
  refine a_v rfl (s_assign (ev_t rfl)) ?_
  refine a_nil ?_
  refine a_ret ?_
  exact ⟨[_], _, ⟨_, _, rfl, ev_t rfl, rfl⟩, View.le_refl _, b1, nb1, rfl, rfl⟩
theorem fr_frames1 {b0 : List UInt8} {L b1 : Nat} {V : View} {Post : View → Prop} (K : List UInt8 → View → Prop) (hb : b0.length ≤ 1000000000)
    (h1 : V b1 = some (.row [.tree 1 (byT b0)])) (hV : K b0 V)
    (hy : ∀ b V, b.length ≤ b0.length → (readFr b).2.2 = 0 → K b V → V b1 = some (.row [.tree 1 (byT b)]) → AYield Try.prog L [.tree 1 (byT (readFr b).1), .tree 1 (byT (b.drop (readFr b).2.1))] V fun x V' => V' b1 = some (.row [.tree 1 (byT b)]) ∧ ∃ r : Bool, x = bv r ∧
      (r = true → K (b.drop (readFr b).2.1) (V'.set b1 (.row [.tree 1 (byT (b.drop (readFr b).2.1))]))) ∧ (r = false → Post V'))
    (hend : ∀ b V, (readFr b).2.2 ≠ 0 → K b V → Post V) : ACalls Try.prog 77 [yv L, pt b1 0] V fun _ V' => Post V' := by
  refine a_fn (fn := Try.f77) Try.func77 rfl ?_ rfl
  refine a_block ?_
  refine a_loop (fun n st V' => ∃ (b : List UInt8) (l : List (Nat × AVal)), b.length = n ∧ b.length ≤ b0.length ∧ st = ⟨l, 26⟩ ∧ SubT [(0, yv L), (1, pt b1 0)] l ∧ V' b1 = some (.row [.tree 1 (byT b)]) ∧ K b V') ?_ b0.length _ _ ⟨b0, _, rfl, Nat.le_refl _, rfl, ⟨rfl, rfl, trivial⟩, h1, hV⟩
  rintro n st W ⟨b, l, rfl, hb', rfl, hs, g1, hK⟩
  refine a_forget hs ?_
  have hn := readFr_n b
  refine a_block ?_
  refine a_seq (a_region ?_)
  refine a_v rfl (s_load Try.sh39 (ev_t rfl) (by simp [View.set, View.drop, g1] <;> first | exact ⟨rfl, rfl⟩ | exact rfl) rfl) ?_
  refine a_v rfl (s_call Try.okF76 ev_f (.cons (ev_t rfl) .nil) (fr_fRead (by omega) _)) ?_
  refine a_v rfl (s_move (ev_t rfl)) ?_
  refine a_v rfl (s_extract (ev_t rfl) rfl) ?_
  refine a_v rfl (s_extract (ev_t rfl) rfl) ?_
  refine a_v rfl (s_extract (ev_t rfl) rfl) ?_
  refine a_v rfl (s_assign (ev_t rfl)) ?_
  refine a_v rfl (s_assign (ev_t rfl)) ?_
  refine a_v rfl (s_assign (ev_t rfl)) ?_
  refine a_nil ?_
  by_cases hz : (readFr b).2.2 = 0
  · have hn1 := hn.2.1 hz
    refine a_seq (a_seq (a_region ?_))
    refine a_v rfl (s_move (ev_t rfl)) ?_
    refine a_v rfl (s_cmp (ev_t rfl) ev_c rfl) ?_
    refine a_v rfl (s_move (ev_t rfl)) ?_
    refine a_vg (gk rfl rfl (ev_t rfl) (by simp [hz])) rfl (s_move (ev_t rfl)) ?_
    refine a_vg (gk rfl rfl (ev_t rfl) (by simp [hz])) rfl (s_move (ev_t rfl)) ?_
    refine a_vg (gk rfl rfl (ev_t rfl) (by simp [hz])) rfl (s_load Try.sh39 (ev_t rfl) (by simp [View.set, View.drop, g1] <;> first | exact ⟨rfl, rfl⟩ | exact rfl) rfl) ?_
    refine a_vg (gk rfl rfl (ev_t rfl) (by simp [hz])) rfl (s_move (ev_t rfl)) ?_
    refine a_vg (gk rfl rfl (ev_t rfl) (by simp [hz])) rfl (s_slicety Try.sl39 (ev_t rfl) (bnd_t (ev_t rfl) (n := (readFr b).2.1) (by omega)) rfl (by omega) (by omega)) ?_
    refine a_vpg (gk rfl rfl (ev_t rfl) (by simp [hz])) rfl (s_yield (ev_t rfl) (.cons (ev_t rfl) (.cons (x := .tree 1 (byT (b.drop (readFr b).2.1))) (by simpa using (ev_t rfl)) .nil)) (hy b _ hb' hz hK g1)) fun xv Vv hx => ?_
    obtain ⟨q1, r, rfl, hT, hF⟩ := hx
    refine a_vg (gk rfl rfl (ev_t rfl) (by simp [hz])) rfl (s_not (ev_t rfl)) ?_
    refine a_v rfl (s_pick (x := .v (.bool _)) (ev_t rfl) (fun hx => (by exact absurd hx (by first | (simp; done) | (simp []; done) | (simp [*]; done)))) (fun _ => (ev_t rfl))) ?_
    refine a_nil ?_
    refine a_cond (ev_t rfl) (fun hc => a_ret ?_) (fun hc => a_skip ?_)
    · exact ⟨[], _, rfl, View.le_refl _, hF (by simpa using hc)⟩
    have hr : r = true := by simpa using hc
    refine a_region ?_
    refine a_v rfl (s_load Try.sh39 (ev_t rfl) (by simp [View.set, View.drop, q1] <;> first | exact ⟨rfl, rfl⟩ | exact rfl) rfl) ?_
    refine a_v rfl (s_move (ev_t rfl)) ?_
    refine a_v rfl (s_slicety Try.sl39 (ev_t rfl) (bnd_t (ev_t rfl) (n := (readFr b).2.1) (by omega)) rfl (by omega) (by omega)) ?_
    refine a_s (s_storew Try.sh39 (ev_t rfl) (ev_t rfl) (by simp [View.set, View.drop, q1] <;> first | exact ⟨rfl, rfl⟩ | exact rfl) rfl rfl (by first | decide | (simp; done) | (simp; omega)) (cs' := [.tree 1 (byT (b.drop (readFr b).2.1))]) (by simp [wrc, AVal.cells])) ?_
    refine a_nil ?_
    exact ⟨(b.drop (readFr b).2.1).length, by simp; omega, b.drop (readFr b).2.1, _, rfl, by simp; omega, rfl, ⟨rfl, rfl, trivial⟩, View.set_same _ _ _, hT hr⟩
  · skip
    refine a_seq (a_seq (a_region ?_))
    refine a_v rfl (s_move (ev_t rfl)) ?_
    refine a_v rfl (s_cmp (ev_t rfl) ev_c rfl) ?_
    refine a_v rfl (s_move (ev_t rfl)) ?_
    refine a_no (gn rfl rfl (ev_t rfl) (by simp [hz])) rfl ?_
    refine a_no (gn rfl rfl (ev_t rfl) (by simp [hz])) rfl ?_
    refine a_no (gn rfl rfl (ev_t rfl) (by simp [hz])) rfl ?_
    refine a_no (gn rfl rfl (ev_t rfl) (by simp [hz])) rfl ?_
    refine a_no (gn rfl rfl (ev_t rfl) (by simp [hz])) rfl ?_
    refine a_no (gn rfl rfl (ev_t rfl) (by simp [hz])) rfl ?_
    refine a_no (gn rfl rfl (ev_t rfl) (by simp [hz])) rfl ?_
    refine a_v rfl (s_pick (x := bv true) (ev_t rfl) (fun _ => ev_c) (fun hx => absurd hx (by simp [hz]))) ?_
    refine a_nil ?_
    refine a_cond (ev_t rfl) (fun hc => a_ret ?_) (fun hc => ?_)
    · exact ⟨[], _, rfl, View.le_refl _, hend b _ hz hK⟩
    · cases hc
#print axioms fr_frames1
theorem fr_fsplit {b : List UInt8} (hb : b.length ≤ 1000000000) (V : View) : ACalls Try.prog 65 [.tree 1 (byT b)] V (One (.tuple [.tree 1 (bysT (splitF b).1), iv ((b.length : Int) - (splitF b).2.length), iv (splitE b)]) V) := by
  have hsl := splitGo_len (b.length + 1) b
  refine a_fn (fn := Try.f65) Try.func65 rfl ?_ rfl
  refine a_seq (a_region ?_)
  refine a_v rfl (s_assign ev_c) ?_
  refine a_v rfl (s_assign ev_c) ?_
  refine a_v rfl (s_assign ev_c) ?_
  refine a_nil ?_
  refine a_seq (a_region ?_)
  refine a_vp rfl (s_alloc Try.z88) fun xv Vv hx => ?_
  obtain ⟨b5, nb5, rfl, rfl⟩ := hx
  have vb5 : V b5 = none := by simpa [View.set, ] using nb5
  refine a_nil ?_
  refine a_seq (a_region ?_)
  refine a_v rfl (s_move (ev_t rfl)) ?_
  refine a_vp rfl (s_alloc Try.z39) fun xv Vv hx => ?_
  obtain ⟨b6, nb6, rfl, rfl⟩ := hx
  have eb6b5 : ¬ b6 = b5 := by rintro rfl; simp [View.set, vb5] at nb6
  have eb6b5' : ¬ b5 = b6 := fun h => eb6b5 h.symm
  have vb6 : V b6 = none := by simpa [View.set, vb5, eb6b5, eb6b5'] using nb6
  refine a_s (s_storew Try.sh39 (ev_t rfl) (ev_t rfl) (by simp [View.set, View.drop, vb5, eb6b5, eb6b5', vb6] <;> first | exact ⟨rfl, rfl⟩ | exact rfl) rfl rfl (by first | decide | (simp; done) | (simp; omega)) (cs' := [.tree 1 (byT b)]) rfl) ?_
  refine a_nil ?_
  refine a_seq (a_seq (a_region ?_))
  refine a_v rfl (s_move (ev_t rfl)) ?_
  refine a_vp rfl (s_call Try.okF75 ev_f (.cons (ev_t rfl) .nil) (fr_frames0 _ _)) fun xv Vv hx => ?_
  obtain ⟨b1, nb1, rfl, rfl⟩ := hx
  refine a_nil ?_
  have eb1b5 : ¬ b1 = b5 := by rintro rfl; simp [View.set, vb5, eb6b5, eb6b5', vb6] at nb1
  have eb1b5' : ¬ b5 = b1 := fun h => eb1b5 h.symm
  have eb1b6 : ¬ b1 = b6 := by rintro rfl; simp [View.set, vb5, eb6b5, eb6b5', vb6, eb1b5, eb1b5'] at nb1
  have eb1b6' : ¬ b6 = b1 := fun h => eb1b6 h.symm
  have vb1 : V b1 = none := by simpa [View.set, vb5, eb6b5, eb6b5', vb6, eb1b5, eb1b5', eb1b6, eb1b6'] using nb1
  refine a_block ?_
  refine a_range (fs := []) (cap := [_]) Try.okF77 (ev_t rfl) fun L nL => ?_
  generalize hlo : AObj.loop LoopState.ready none _ _ _ _ = lo
  have eLb5 : ¬ L = b5 := by rintro rfl; simp [View.set, vb5, eb6b5, eb6b5', vb6, eb1b5, eb1b5', eb1b6, eb1b6', vb1] at nL
  have eLb5' : ¬ b5 = L := fun h => eLb5 h.symm
  have eLb6 : ¬ L = b6 := by rintro rfl; simp [View.set, vb5, eb6b5, eb6b5', vb6, eb1b5, eb1b5', eb1b6, eb1b6', vb1, eLb5, eLb5'] at nL
  have eLb6' : ¬ b6 = L := fun h => eLb6 h.symm
  have eLb1 : ¬ L = b1 := by rintro rfl; simp [View.set, vb5, eb6b5, eb6b5', vb6, eb1b5, eb1b5', eb1b6, eb1b6', vb1, eLb5, eLb5', eLb6, eLb6'] at nL
  have eLb1' : ¬ b1 = L := fun h => eLb1 h.symm
  have vL : V L = none := by simpa [View.set, vb5, eb6b5, eb6b5', vb6, eb1b5, eb1b5', eb1b6, eb1b6', vb1, eLb5, eLb5', eLb6, eLb6', eLb1, eLb1'] using nL
  refine fr_frames1 (b0 := b) (fun cur V₁ => ∃ (out : List (List UInt8)) (x : AVal) (V₂ : View) (m : Nat), cur.length < m ∧ out.length + cur.length ≤ b.length ∧ splitF b = (out ++ (splitGo m cur).1, (splitGo m cur).2) ∧ Acc V₁ x 1 out.length (bysT out) V₂ ∧
    V₂ L = some lo ∧ V₂ b5 = some (.row [x]) ∧ V₂ b6 = some (.row [.tree 1 (byT cur)]) ∧ V₂ b1 = some (.row [.tree 1 (byT cur)]) ∧ View.le V V₂) hb ?_ ?_ ?_ ?_
  · simp [View.set, vb5, eb6b5, eb6b5', vb6, eb1b5, eb1b5', eb1b6, eb1b6', vb1, eLb5, eLb5', eLb6, eLb6', eLb1, eLb1', vL]
  · refine ⟨[], .v (.slice none 0 0), _, b.length + 1, by omega, by simp, rfl, accNil, View.set_same _ _ _, ?_, ?_, ?_, ?_⟩
    all_goals first | (simp [View.set, vb5, eb6b5, eb6b5', vb6, eb1b5, eb1b5', eb1b6, eb1b6', vb1, eLb5, eLb5', eLb6, eLb6', eLb1, eLb1', vL]; done) | (simp [View.set, vb5, eb6b5, eb6b5', vb6, eb1b5, eb1b5', eb1b6, eb1b6', vb1, eLb5, eLb5', eLb6, eLb6', eLb1, eLb1', vL]; rfl) | skip
    repeat refine View.le_set ?_ (by assumption)
    exact View.le_refl _
  · rintro cur V₁ hcl hz ⟨out, x, V₂, m, hm, hol, hsp, A1, k0, k5, k6, k1, kl⟩ -
    obtain ⟨m, rfl⟩ : ∃ j, m = j + 1 := ⟨m - 1, by omega⟩
    have hn := readFr_n cur
    have hn1 := hn.2.1 hz
    rw [splitGo, if_neg (by simp [hz])] at hsp
    have g0 := accLe A1 _ _ k0
    have g1 := accLe A1 _ _ k1
    have g5 := accLe A1 _ _ k5
    have g6 := accLe A1 _ _ k6
    refine a_round (pend := none) (by rw [g0, ← hlo]) rfl rfl ?_
    refine a_seq (a_region ?_)
    refine a_v rfl (s_assign (ev_t rfl)) ?_
    refine a_nil ?_
    refine a_region ?_
    refine a_v rfl (s_assign (ev_t rfl)) ?_
    refine a_nil ?_
    refine ⟨by rw [g0, ← hlo], ?_⟩
    generalize hlb : AObj.loop LoopState.busy none _ _ _ _ = lb
    have A2 := accUpd (b := L) A1 lb k0
    refine a_block ?_
    refine a_region ?_
    refine a_v rfl (s_load Try.sh88 (ev_t rfl) (by simp [View.set, View.drop, k0, k1, k5, k6, g0, g1, g5, g6, eb6b5, eb6b5', eb1b5, eb1b5', eb1b6, eb1b6', eLb5, eLb5', eLb6, eLb6', eLb1, eLb1'] <;> first | exact ⟨rfl, rfl⟩ | exact rfl) rfl) ?_
    refine a_v rfl (s_move (ev_t rfl)) ?_
    refine a_v rfl (s_litx Try.sl88 Try.z39 rfl rfl (.cons (ev_t rfl) .nil) rfl rfl rfl) ?_
    refine a_vp rfl (s_acc Try.sl88 Try.src88 Try.z39 rfl Try.by39 (ev_t rfl) A2 (src_one (ev_t rfl) rfl rfl) rfl (by omega) (by omega)) fun xv Vv hx => ?_
    have A18 := hx
    obtain ⟨u18, rfl, hu18⟩ := accVal A18
    refine a_v rfl (s_move (ev_t rfl)) ?_
    refine a_s (s_storew Try.sh88 (ev_t rfl) (ev_t rfl) (accLe A18 b5 (.row [x]) (by simp [View.set, k5, eb6b5, eb6b5', eb1b5, eb1b5', eb1b6, eb1b6', eLb5, eLb5', eLb6, eLb6', eLb1, eLb1'])) hu18 rfl (by first | decide | (simp; done) | (simp; omega)) (cs' := [.v u18]) rfl) ?_
    have q6 : Vv b6 = some (.row [.tree 1 (byT cur)]) := accLe A18 _ _ (by simp [View.set, k6, eb6b5, eb6b5', eb1b5, eb1b5', eb1b6, eb1b6', eLb5, eLb5', eLb6, eLb6', eLb1, eLb1'])
    refine a_s (s_storew Try.sh39 (ev_t rfl) (ev_t rfl) (by simp [View.set, q6, eb6b5, eb6b5', eb1b5, eb1b5', eb1b6, eb1b6', eLb5, eLb5', eLb6, eLb6', eLb1, eLb1']; exact ⟨rfl, rfl⟩) rfl rfl (by first | decide | (simp; done) | (simp; omega)) (cs' := [.tree 1 (byT (cur.drop (readFr cur).2.1))]) rfl) ?_
    refine a_nil ?_
    have A3 := accUpd (accUpd (b := b5) A18 (.row [.v u18]) (o' := .row [x]) (by simp [View.set, k5, eb6b5, eb6b5', eb1b5, eb1b5', eb1b6, eb1b6', eLb5, eLb5', eLb6, eLb6', eLb1, eLb1'])) (.row [.tree 1 (byT (cur.drop (readFr cur).2.1))]) (b := b6) (o' := .row [.tree 1 (byT cur)]) (by simp [View.set, k6, eb6b5, eb6b5', eb1b5, eb1b5', eb1b6, eb1b6', eLb5, eLb5', eLb6, eLb6', eLb1, eLb1'])
    have A4 := accUpd (b := L) A3 lo (o' := lb) (by simp [View.set, eb6b5, eb6b5', eb1b5, eb1b5', eb1b6, eb1b6', eLb5, eLb5', eLb6, eLb6', eLb1, eLb1'])
    have A5 := accUpd (b := b1) A4 (.row [.tree 1 (byT (cur.drop (readFr cur).2.1))]) (o' := .row [.tree 1 (byT cur)]) (by simp [View.set, k1, eb6b5, eb6b5', eb1b5, eb1b5', eb1b6, eb1b6', eLb5, eLb5', eLb6, eLb6', eLb1, eLb1'])
    have g0b : Vv L = some lb := accLe A18 _ _ (by simp [View.set, eb6b5, eb6b5', eb1b5, eb1b5', eb1b6, eb1b6', eLb5, eLb5', eLb6, eLb6', eLb1, eLb1'])
    have g1' : Vv b1 = some (.row [.tree 1 (byT cur)]) := accLe A18 _ _ (by simp [View.set, k1, eb6b5, eb6b5', eb1b5, eb1b5', eb1b6, eb1b6', eLb5, eLb5', eLb6, eLb6', eLb1, eLb1'])
    refine ⟨⟨.busy, none, by simp [View.set, g0b, eb6b5, eb6b5', eb1b5, eb1b5', eb1b6, eb1b6', eLb5, eLb5', eLb6, eLb6', eLb1, eLb1']; exact hlb.symm⟩, by rw [hlo]; simp [View.set, g1', eb6b5, eb6b5', eb1b5, eb1b5', eb1b6, eb1b6', eLb5, eLb5', eLb6, eLb6', eLb1, eLb1'], true, rfl, fun _ => ⟨out ++ [(readFr cur).1], .v u18, _, m, by simp; omega, by simp; omega, ?_, by rw [hlo]; exact accCast A5 (by simp) (by simp [bysT, AVal.cells]), ?_, ?_, ?_, ?_, ?_⟩, fun h => by cases h⟩
    · rw [hsp]; simp
    all_goals first | (simp [View.set, k1, k5, k6, eb6b5, eb6b5', eb1b5, eb1b5', eb1b6, eb1b6', eLb5, eLb5', eLb6, eLb6', eLb1, eLb1']; done) | skip
    repeat refine View.le_set ?_ (by assumption)
    exact kl
  · rintro cur V₁ hz ⟨out, x, V₂, m, hm, hol, hsp, A1, k0, k5, k6, k1, kl⟩
    obtain ⟨m, rfl⟩ : ∃ j, m = j + 1 := ⟨m - 1, by omega⟩
    rw [splitGo, if_pos hz] at hsp
    simp only [List.append_nil] at hsp
    refine ⟨.ready, none, by rw [accLe A1 _ _ k0, ← hlo], by simp, ?_⟩
    have A2 := accDrop A1 k0
    refine a_acc_row1 A2 (bysT_els _) (bysT_len _) (bysT_good _) (b := b5) (N := none) (by simp [View.drop, k5, eb6b5, eb6b5', eb1b5, eb1b5', eb1b6, eb1b6', eLb5, eLb5', eLb6, eLb6', eLb1, eLb1']) ?_
    have hE : splitE b = if cur = [] then 0 else (readFr cur).2.2 := by rw [splitE, hsp]
    have hcl : cur.length ≤ b.length := by omega
    refine a_seq (a_region ?_)
    refine a_v rfl (s_assign ev_c) ?_
    refine a_nil ?_
    refine a_seq (a_seq (a_region ?_))
    refine a_v rfl (s_load Try.sh39 (ev_t rfl) (by simp [View.set, View.drop, k1, k5, k6, eb6b5, eb6b5', eb1b5, eb1b5', eb1b6, eb1b6', eLb5, eLb5', eLb6, eLb6', eLb1, eLb1'] <;> first | exact ⟨rfl, rfl⟩ | exact rfl) rfl) ?_
    refine a_v rfl (s_leny Try.us39 (ev_t rfl)) ?_
    refine a_v rfl (s_cmp (ev_t rfl) ev_c rfl) ?_
    refine a_nil ?_
    refine a_cut1 (fun st V' => ∃ (lt : List (Nat × AVal)), st = ⟨lt, 36⟩ ∧ SubT [(0, .tree 1 (byT b)), (5, pt b5 0), (6, pt b6 0), (9, iv (splitE b))] lt ∧ V' = (V₂.drop L).set b5 (.rown [.tree 1 (bysT out)] none)) ?_ ?_
    · refine a_cond (ev_t rfl) (fun hc => ?_) (fun hc => a_skip ?_)
      · have hne : cur ≠ [] := by rintro rfl; simp at hc
        rw [hE, if_neg hne]
        refine a_region ?_
        refine a_v rfl (s_load Try.sh39 (ev_t rfl) (by simp [View.set, View.drop, k1, k5, k6, eb6b5, eb6b5', eb1b5, eb1b5', eb1b6, eb1b6', eLb5, eLb5', eLb6, eLb6', eLb1, eLb1'] <;> first | exact ⟨rfl, rfl⟩ | exact rfl) rfl) ?_
        refine a_v rfl (s_call Try.okF76 ev_f (.cons (ev_t rfl) .nil) (fr_fRead (by omega) _)) ?_
        refine a_v rfl (s_move (ev_t rfl)) ?_
        refine a_v rfl (s_extract (ev_t rfl) rfl) ?_
        refine a_v rfl (s_extract (ev_t rfl) rfl) ?_
        refine a_v rfl (s_extract (ev_t rfl) rfl) ?_
        refine a_v rfl (s_assign (ev_t rfl)) ?_
        refine a_nil ?_
        exact ⟨_, rfl, ⟨rfl, rfl, rfl, rfl, trivial⟩, rfl⟩
      · have hne : cur = [] := by
          cases cur with
          | nil => rfl
          | cons a r => simp at hc
        rw [hE, if_pos hne]
        exact ⟨_, rfl, ⟨rfl, rfl, rfl, rfl, trivial⟩, rfl⟩
    rintro st V' ⟨lt, rfl, hs, rfl⟩
    refine a_forget hs ?_
    refine a_seq (a_draw [false, false, false, false, false, false, false, false, false, false] (_) Try.mixed rfl (by kernel_rfl) (View.le_refl _) ?_)
    refine d_v (fun V' hU => f_plain rfl (s_load Try.sh88 (ev_o rfl rfl) (hU _ _ (by simp [View.set, View.drop, k1, k5, k6, eb6b5, eb6b5', eb1b5, eb1b5', eb1b6, eb1b6', eLb5, eLb5', eLb6, eLb6', eLb1, eLb1'] <;> first | exact ⟨rfl, rfl⟩ | exact rfl)) rfl)) ?_
    refine d_v (fun V' hU => f_plain rfl (s_move (ev_o rfl rfl))) ?_
    refine d_v (fun V' hU => f_plain rfl (s_leny Try.us39 (ev_o rfl rfl))) ?_
    refine d_v (fun V' hU => f_plain rfl (s_load Try.sh39 (ev_o rfl rfl) (hU _ _ (by simp [View.set, View.drop, k1, k5, k6, eb6b5, eb6b5', eb1b5, eb1b5', eb1b6, eb1b6', eLb5, eLb5', eLb6, eLb6', eLb1, eLb1'] <;> first | exact ⟨rfl, rfl⟩ | exact rfl)) rfl)) ?_
    refine d_v (fun V' hU => f_plain rfl (s_leny Try.us39 (ev_o rfl rfl))) ?_
    refine d_v (fun V' hU => f_plain rfl (s_sub (ev_o rfl rfl) (ev_o rfl rfl) (by omega) (by omega))) ?_
    refine d_v (fun V' hU => f_plain rfl (s_move (ev_o rfl rfl))) ?_
    refine d_v (fun V' hU => f_plain rfl (s_assign (ev_o rfl rfl))) ?_
    refine d_v (fun V' hU => f_plain rfl (s_assign (ev_o rfl rfl))) ?_
    refine d_v (fun V' hU => f_plain rfl (s_assign (ev_o rfl rfl))) ?_
    refine d_nil ?_
    refine a_ret ?_
    refine ⟨[_, _, _], V, ⟨_, _, rfl, ev_t rfl, _, _, rfl, ev_t rfl, _, _, rfl, ev_t rfl, rfl⟩, ?_, by rw [hsp]; rfl, rfl⟩
    repeat refine View.le_set ?_ (by assumption)
    exact View.le_drop kl (by assumption)
#print axioms fr_fsplit
end Go.Proofs
