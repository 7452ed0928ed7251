/- Cells with marks: what differs between two arrays; numbers that are alike. -/
import Derived.Test.YtapelipehckbcaaMkM
set_option linter.unusedVariables false
set_option linter.unusedSimpArgs false
set_option linter.unnecessarySimpa false
namespace Go.AV
/-- The cells as an array of arrays. -/
def arrV (c : Ce) : List AVal := cells18.map fun p => iv (c p.1 p.2)
theorem arr_at {o i : Nat} (ho : o < 3) (hi : i < 6) : cells18[o * 6 + i]? = some (o, i) := by
  have e1 : o = 0 ∨ o = 1 ∨ o = 2 := by omega
  have e2 : i = 0 ∨ i = 1 ∨ i = 2 ∨ i = 3 ∨ i = 4 ∨ i = 5 := by omega
  rcases e1 with rfl | rfl | rfl <;> rcases e2 with rfl | rfl | rfl | rfl | rfl | rfl <;> rfl
theorem rdArr (c : Ce) {o i : Nat} (ho : o < 3) (hi : i < 6) (x y : Int) (hx : x = (o : Int)) (hy : y = (i : Int)) : rdc false 1 (arrV c) (0 + x.toNat * 6 + y.toNat * 1) = some (iv (c o i)) := by
  subst hx; subst hy
  simp only [rdc, Bool.false_eq_true, if_false, arrV, List.getElem?_map]
  rw [show 0 + ((o : Nat) : Int).toNat * 6 + ((i : Nat) : Int).toNat * 1 = o * 6 + i by omega, arr_at ho hi]
  rfl
theorem arrV_len (c : Ce) : (arrV c).length = 18 := rfl
theorem wrArr (c : Ce) {o i : Nat} (ho : o < 3) (hi : i < 6) (v : Int) (x y : Int) (hx : x = (o : Int)) (hy : y = (i : Int)) : wrc (arrV c) (0 + x.toNat * 6 + y.toNat * 1) [iv v] = arrV (c.upd o i v) := by
  subst hx; subst hy
  rw [show 0 + ((o : Nat) : Int).toNat * 6 + ((i : Nat) : Int).toNat * 1 = o * 6 + i by omega]
  have e1 : o = 0 ∨ o = 1 ∨ o = 2 := by omega
  have e2 : i = 0 ∨ i = 1 ∨ i = 2 ∨ i = 3 ∨ i = 4 ∨ i = 5 := by omega
  rcases e1 with rfl | rfl | rfl <;> rcases e2 with rfl | rfl | rfl | rfl | rfl | rfl <;> simp [wrc, arrV, cells18, Ce.upd]
end Go.AV
namespace Go.Proofs
open Go.AV
variable {V V₀ : View} {b : Nat} {n : Nat → Nat} {c base : Ce} {ss : List Ce}
theorem mk_differ (s c : Ce) (V : View) : ACalls Try.prog 18 [.agg (arrV s), .agg (arrV c)] V (One (.tree 4 (chgU s c (fun _ => 6) 3 0)) V) := by
  have hn : ∀ o, o < 3 → (fun _ => 6 : Nat → Nat) o ≤ 6 := fun _ _ => Nat.le_refl _
  refine a_fn (fn := Try.f18) Try.func18 rfl ?_ rfl
  refine a_seq (a_region ?_)
  refine a_vp rfl (s_box (ev_t rfl) rfl) fun xv Vv hx => ?_
  obtain ⟨ba, nba, rfl, rfl⟩ := hx
  have vba : V ba = none := by simpa [View.set, ] using nba
  refine a_vp rfl (s_box (ev_t rfl) rfl) fun xv Vv hx => ?_
  obtain ⟨bb, nbb, rfl, rfl⟩ := hx
  have ebbba : ¬ bb = ba := by rintro rfl; simp [View.set, vba] at nbb
  have ebbba' : ¬ ba = bb := fun h => ebbba h.symm
  have vbb : V bb = none := by simpa [View.set, vba, ebbba, ebbba'] using nbb
  refine a_v rfl (s_assign ev_c) ?_
  refine a_nil ?_
  refine a_gen fun W0 hW0 => ?_
  have na : V ba = none := nba
  have hab : ba ≠ bb := fun e => by subst e; simp at nbb
  have nb2 : V bb = none := by rwa [View.set_other _ _ hab.symm] at nbb
  have ja0 : W0 ba = some (.row (arrV s)) := by rw [hW0, View.set_other _ _ hab]; exact View.set_same _ _ _
  have jb0 : W0 bb = some (.row (arrV c)) := by rw [hW0]; exact View.set_same _ _ _
  have jl0 : V.le W0 := by rw [hW0]; exact View.le_set (View.le_self_set nba) nb2
  clear hW0
  refine a_seq (a_region ?_)
  refine a_v rfl (s_assign ev_c) ?_
  refine a_nil ?_
  refine a_seq (a_seq (a_region ?_))
  refine a_v rfl (s_assign ev_c) ?_
  refine a_nil ?_
  refine a_block ?_
  refine a_loop (fun m st V' => ∃ (o : Nat) (lt : List (Nat × AVal)) (x : AVal) (V₁ : View), 3 - o = m ∧ o ≤ 3 ∧ st = ⟨lt, 45⟩ ∧ SubT [(2, pt ba 0), (3, pt bb 0), (5, x), (6, iv o)] lt ∧ Acc V' x 4 (chgU s c (fun _ => 6) o 0).length ((chgU s c (fun _ => 6) o 0).flatMap AVal.cells) V₁ ∧ V₁ ba = some (.row (arrV s)) ∧ V₁ bb = some (.row (arrV c)) ∧ V.le V₁) ?_ 3 _ _ ⟨0, _, _, _, rfl, by omega, rfl, ⟨rfl, rfl, rfl, rfl, trivial⟩, accNil, ja0, jb0, jl0⟩
  rintro m st W1 ⟨o, lt, x, V₁, rfl, ho3, rfl, hs, A5, ja, jb, jl⟩
  refine a_forget hs ?_
  refine a_seq (a_seq (a_region ?_))
  refine a_v rfl (s_move (ev_t rfl)) ?_
  refine a_v rfl (s_cmp (ev_t rfl) ev_c rfl) ?_
  refine a_nil ?_
  refine a_cond (ev_t rfl) (fun hc => a_skip ?_) (fun hc => a_exit ?_)
  · have ho : o < 3 := by simp at hc; omega
    refine a_seq (a_block ?_)
    refine a_seq (a_region ?_)
    refine a_v rfl (s_assign ev_c) ?_
    refine a_nil ?_
    refine a_block ?_
    refine a_loop (fun m2 st V' => ∃ (i : Nat) (lt : List (Nat × AVal)) (x : AVal) (V₁ : View), 6 - i = m2 ∧ i ≤ 6 ∧ st = ⟨lt, 45⟩ ∧ SubT [(2, pt ba 0), (3, pt bb 0), (5, x), (6, iv o), (7, iv i)] lt ∧ Acc V' x 4 (chgU s c (fun _ => 6) o i).length ((chgU s c (fun _ => 6) o i).flatMap AVal.cells) V₁ ∧ V₁ ba = some (.row (arrV s)) ∧ V₁ bb = some (.row (arrV c)) ∧ V.le V₁) ?_ 6 _ _ ⟨0, _, _, _, rfl, by omega, rfl, ⟨rfl, rfl, rfl, rfl, rfl, trivial⟩, A5, ja, jb, jl⟩
    rintro m2 st W2 ⟨i, lt, x, V₂, rfl, hi6, rfl, hs, A6, ka, kb, kl⟩
    refine a_forget hs ?_
    refine a_seq (a_seq (a_region ?_))
    refine a_v rfl (s_move (ev_t rfl)) ?_
    refine a_v rfl (s_cmp (ev_t rfl) ev_c rfl) ?_
    refine a_nil ?_
    refine a_cond (ev_t rfl) (fun hc => a_skip ?_) (fun hc => a_exit ?_)
    · have hi : i < 6 := by simp at hc; omega
      have hlen := chgU_len s c hn (o := o) (i := i) (by omega) (by omega)
      have ga := accLe A6 _ _ ka
      have gb := accLe A6 _ _ kb
      refine a_seq (a_block ?_)
      refine a_seq (a_draw [false, false, false, false, false, false, false, false, false, false, false] (_) Try.mixed rfl (by kernel_rfl) (View.le_refl _) ?_)
      refine d_v (fun V' hU => f_plain rfl (s_move (ev_o rfl rfl))) ?_
      refine d_v (fun V' hU => f_plain rfl (s_move (ev_o rfl rfl))) ?_
      refine d_v (fun V' hU => f_plain rfl (s_idxa Try.ar70 (ev_o rfl rfl) (ev_o rfl rfl) (by omega) (by omega))) ?_
      refine d_v (fun V' hU => f_plain rfl (s_idxa Try.ar69 (ev_o rfl rfl) (ev_o rfl rfl) (by omega) (by omega))) ?_
      refine d_v (fun V' hU => f_plain rfl (s_load Try.sh2 (ev_o rfl rfl) (hU _ _ ga) (rdArr s ho hi _ _ rfl rfl))) ?_
      refine d_v (fun V' hU => f_plain rfl (s_move (ev_o rfl rfl))) ?_
      refine d_v (fun V' hU => f_plain rfl (s_move (ev_o rfl rfl))) ?_
      refine d_v (fun V' hU => f_plain rfl (s_idxa Try.ar70 (ev_o rfl rfl) (ev_o rfl rfl) (by omega) (by omega))) ?_
      refine d_v (fun V' hU => f_plain rfl (s_idxa Try.ar69 (ev_o rfl rfl) (ev_o rfl rfl) (by omega) (by omega))) ?_
      refine d_v (fun V' hU => f_plain rfl (s_load Try.sh2 (ev_o rfl rfl) (hU _ _ gb) (rdArr c ho hi _ _ rfl rfl))) ?_
      refine d_v (fun V' hU => f_plain rfl (s_cmp (ev_o rfl rfl) (ev_o rfl rfl) rfl)) ?_
      refine d_nil ?_
      refine a_cond (ev_t rfl) (fun hc2 => ?_) (fun hc2 => a_skip ?_)
      · have hcell : chgCell s c o i = some (chgV s c o i) := by unfold chgCell; rw [if_pos (by simpa using hc2)]
        refine a_draw [false, false, false, false, false, false, false, false, false, false, false, false, false, false, false, false, true, false] (View.set (View.set (fun _ => none) ba (.row (arrV s))) bb (.row (arrV c))) Try.mixed rfl (by kernel_rfl) (View.pair_le ga gb) ?_
        refine d_v (fun V' hU => f_plain rfl (s_move (ev_o rfl rfl))) ?_
        refine d_v (fun V' hU => f_plain rfl (s_move (ev_o rfl rfl))) ?_
        refine d_v (fun V' hU => f_plain rfl (s_add (ev_o rfl rfl) ev_c (by omega) (by omega))) ?_
        refine d_v (fun V' hU => f_plain rfl (s_move (ev_o rfl rfl))) ?_
        refine d_v (fun V' hU => f_plain rfl (s_move (ev_o rfl rfl))) ?_
        refine d_v (fun V' hU => f_plain rfl (s_move (ev_o rfl rfl))) ?_
        refine d_v (fun V' hU => f_plain rfl (s_idxa Try.ar70 (ev_o rfl rfl) (ev_o rfl rfl) (by omega) (by omega))) ?_
        refine d_v (fun V' hU => f_plain rfl (s_idxa Try.ar69 (ev_o rfl rfl) (ev_o rfl rfl) (by omega) (by omega))) ?_
        refine d_v (fun V' hU => f_plain rfl (s_load Try.sh2 (ev_o rfl rfl) (hU _ _ (by rw [View.set_other _ _ hab]; exact View.set_same _ _ _)) (rdArr s ho hi _ _ rfl rfl))) ?_
        refine d_v (fun V' hU => f_plain rfl (s_move (ev_o rfl rfl))) ?_
        refine d_v (fun V' hU => f_plain rfl (s_move (ev_o rfl rfl))) ?_
        refine d_v (fun V' hU => f_plain rfl (s_idxa Try.ar70 (ev_o rfl rfl) (ev_o rfl rfl) (by omega) (by omega))) ?_
        refine d_v (fun V' hU => f_plain rfl (s_idxa Try.ar69 (ev_o rfl rfl) (ev_o rfl rfl) (by omega) (by omega))) ?_
        refine d_v (fun V' hU => f_plain rfl (s_load Try.sh2 (ev_o rfl rfl) (hU _ _ (View.set_same _ _ _)) (rdArr c ho hi _ _ rfl rfl))) ?_
        refine d_v (fun V' hU => f_plain rfl (s_build Try.z74 Try.pl74 (.cons (ev_o rfl rfl) (.cons (ev_o rfl rfl) (.cons (ev_o rfl rfl) (.cons (ev_o rfl rfl) .nil)))) rfl)) ?_
        refine d_v (fun V' hU => f_plain rfl (s_litx Try.sl72 Try.z74 rfl rfl (.cons (ev_o rfl rfl) .nil) rfl rfl rfl)) ?_
        refine d_vp (s_acc Try.sl72 Try.src72 Try.z74 rfl Try.by74 (ev_o rfl rfl) A6 (src_one (x := chgV s c o i) (ev_o rfl rfl) rfl rfl) rfl (by omega) (by omega)) fun xv Vv hx => ?_
        have A43 := hx; refine ⟨View.pair_le (accLe A43 _ _ ka) (accLe A43 _ _ kb), ?_⟩
        refine d_v (fun V' hU => f_plain rfl (s_assign (ev_o rfl rfl))) ?_
        refine d_nil ?_
        repeat first | refine thenA_x ?_ | refine blockA_hit ?_ | refine blockA_x (by decide) ?_
        refine a_region ?_
        refine a_v rfl (s_move (ev_t rfl)) ?_
        refine a_v rfl (s_add (ev_t rfl) ev_c (by omega) (by omega)) ?_
        refine a_v rfl (s_assign (ev_t rfl)) ?_
        refine a_nil ?_
        exact ⟨6 - (i + 1), by omega, i + 1, _, _, _, rfl, by omega, rfl, ⟨rfl, rfl, rfl, rfl, rfl, trivial⟩, accCast A43 (by rw [chgU_succ, hcell]; simp) (by rw [chgU_succ, hcell]; simp), ka, kb, kl⟩
      repeat first | refine thenA_x ?_ | refine blockA_hit ?_ | refine blockA_x (by decide) ?_
      have hcell : chgCell s c o i = none := by unfold chgCell; rw [if_neg (by simpa using hc2)]
      refine a_region ?_
      refine a_v rfl (s_move (ev_t rfl)) ?_
      refine a_v rfl (s_add (ev_t rfl) ev_c (by omega) (by omega)) ?_
      refine a_v rfl (s_assign (ev_t rfl)) ?_
      refine a_nil ?_
      exact ⟨6 - (i + 1), by omega, i + 1, _, _, _, rfl, by omega, rfl, ⟨rfl, rfl, rfl, rfl, rfl, trivial⟩, accCast A6 (by rw [chgU_succ, hcell]; simp) (by rw [chgU_succ, hcell]; simp), ka, kb, kl⟩
    repeat first | refine thenA_x ?_ | refine blockA_hit ?_ | refine blockA_x (by decide) ?_
    have hi' : i = 6 := by simp at hc; omega
    subst hi'
    have er := chgU_row s c (fun _ => 6) o
    refine a_region ?_
    refine a_v rfl (s_move (ev_t rfl)) ?_
    refine a_v rfl (s_add (ev_t rfl) ev_c (by omega) (by omega)) ?_
    refine a_v rfl (s_assign (ev_t rfl)) ?_
    refine a_nil ?_
    exact ⟨3 - (o + 1), by omega, o + 1, _, _, _, rfl, by omega, rfl, ⟨rfl, rfl, rfl, rfl, trivial⟩, accCast A6 (by rw [er]) (by rw [er]), ka, kb, kl⟩
  repeat first | refine thenA_x ?_ | refine blockA_hit ?_ | refine blockA_x (by decide) ?_
  have ho' : o = 3 := by simp at hc; omega
  subst ho'
  refine a_seq (a_region ?_)
  refine a_v rfl (s_move (ev_t rfl)) ?_
  refine a_v rfl (s_assign (ev_t rfl)) ?_
  refine a_nil ?_
  refine a_acc_tree (t := 4) A5 rfl rfl (chgU_good _ _ _ _ _) rfl ?_
  refine a_ret ?_
  exact ⟨[_], V, ⟨_, _, rfl, ev_t rfl, rfl⟩, jl, rfl, rfl⟩
theorem mk_numbers {o k r off cap : Nat} {cs : List AVal} {N : Option Nat} (c : Ce) (hk : k ≤ 6) (hr : V r = some (.rown cs N)) (hcs : ∀ i, i < k → rdc false 1 cs (off + ((i : Nat) : Int).toNat * 1) = some (iv (c o i))) : ACalls Try.prog 28 [.tree 1 (rowV c o k), .v (.slice (some ⟨r, off, none⟩) k cap)] V (One (bv true) V) := by
  refine a_fn (fn := Try.f28) Try.func28 rfl ?_ rfl
  refine a_seq (a_region ?_)
  refine a_v rfl (s_assign ev_c) ?_
  refine a_nil ?_
  refine a_seq (a_seq (a_region ?_))
  refine a_v rfl (s_move (ev_t rfl)) ?_
  refine a_v rfl (s_lent Try.us84 (ev_t rfl)) ?_
  refine a_v rfl (s_move (ev_t rfl)) ?_
  refine a_v rfl (s_lens Try.us84 (ev_t rfl)) ?_
  refine a_v rfl (s_cmp (ev_t rfl) (ev_t rfl) rfl) ?_
  refine a_nil ?_
  refine a_cond (ev_t rfl) (fun hc => ?_) (fun hc => a_skip ?_)
  · exfalso; simp [rowV_len] at hc
  repeat first | refine thenA_x ?_ | refine blockA_hit ?_ | refine blockA_x (by decide) ?_
  refine a_seq (a_seq (a_region ?_))
  refine a_v rfl (s_move (ev_t rfl)) ?_
  refine a_v rfl (s_lent Try.us84 (ev_t rfl)) ?_
  refine a_v rfl (s_move ev_c) ?_
  refine a_nil ?_
  refine a_block ?_
  refine a_loop (fun m st V' => ∃ (i : Nat) (lt : List (Nat × AVal)), k - i = m ∧ i ≤ k ∧ st = ⟨lt, 26⟩ ∧ SubT [(0, .tree 1 (rowV c o k)), (1, .v (.slice (some ⟨r, off, none⟩) k cap)), (12, iv (rowV c o k).length), (13, iv i)] lt ∧ V' = V) ?_ k _ _ ⟨0, _, rfl, by omega, rfl, ⟨rfl, rfl, rfl, rfl, trivial⟩, rfl⟩
  rintro m st W1 ⟨i, lt, rfl, hik, rfl, hs, rfl⟩
  refine a_forget hs ?_
  refine a_seq (a_region ?_)
  refine a_v rfl (s_cmp (ev_t rfl) (ev_t rfl) rfl) ?_
  refine a_nil ?_
  refine a_seq (a_cond (ev_t rfl) (fun hc => a_skip ?_) (fun hc => a_exit ?_))
  · have hi : i < k := by simp [rowV_len] at hc; omega
    refine a_seq (a_block ?_)
    refine a_seq (a_region ?_)
    refine a_v rfl (s_move (ev_t rfl)) ?_
    refine a_v rfl (s_assign (ev_t rfl)) ?_
    refine a_nil ?_
    refine a_seq (a_draw [false, false, false, false, false, false, false, false, false] (_) Try.mixed rfl (by kernel_rfl) (View.le_refl _) ?_)
    refine d_v (fun V' hU => f_plain rfl (s_move (ev_o rfl rfl))) ?_
    refine d_v (fun V' hU => f_plain rfl (s_move (ev_o rfl rfl))) ?_
    refine d_v (fun V' hU => f_plain rfl (s_idxt Try.sl84 (ev_o rfl rfl) (ev_o rfl rfl) (by omega) (rowV_get (i := ((i : Nat) : Int).toNat) (by omega)))) ?_
    refine d_v (fun V' hU => f_plain rfl (s_loadr Try.sh2 rfl (ev_o rfl rfl) (ref1 rfl))) ?_
    refine d_v (fun V' hU => f_plain rfl (s_move (ev_o rfl rfl))) ?_
    refine d_v (fun V' hU => f_plain rfl (s_move (ev_o rfl rfl))) ?_
    refine d_v (fun V' hU => f_plain rfl (s_idxs Try.sl84 (ev_o rfl rfl) (ev_o rfl rfl) (by omega) (by omega))) ?_
    refine d_v (fun V' hU => f_plain rfl (s_load Try.sh2 (ev_o rfl rfl) (hU _ _ hr) (hcs i hi))) ?_
    refine d_v (fun V' hU => f_plain rfl (s_cmp (ev_o rfl rfl) (ev_o rfl rfl) rfl)) ?_
    refine d_nil ?_
    refine a_cond (ev_t rfl) (fun hc2 => ?_) (fun hc2 => a_skip ?_)
    · exfalso; simp at hc2
    repeat first | refine thenA_x ?_ | refine blockA_hit ?_ | refine blockA_x (by decide) ?_
    refine a_region ?_
    refine a_v rfl (s_add (ev_t rfl) ev_c (by omega) (by omega)) ?_
    refine a_v rfl (s_move (ev_t rfl)) ?_
    refine a_nil ?_
    exact ⟨k - (i + 1), by omega, i + 1, _, rfl, by omega, rfl, ⟨rfl, rfl, rfl, rfl, trivial⟩, rfl⟩
  repeat first | refine thenA_x ?_ | refine blockA_hit ?_ | refine blockA_x (by decide) ?_
  refine a_seq (a_region ?_)
  refine a_v rfl (s_assign ev_c) ?_
  refine a_nil ?_
  refine a_ret ?_
  exact ⟨[_], _, ⟨_, _, rfl, ev_t rfl, rfl⟩, View.le_refl _, rfl, rfl⟩
#print axioms mk_differ
#print axioms mk_numbers
end Go.Proofs
