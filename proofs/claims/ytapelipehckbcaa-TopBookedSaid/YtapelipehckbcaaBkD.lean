import Derived.Test.YtapelipehckbcaaBkC
import Derived.Test.YtapelipehckbcaaAvM
set_option linter.unusedVariables false
set_option linter.unusedSimpArgs false
namespace Go.AV
def backC (cs : Ch) : Ch := cs.reverse.map fun c => (c.1, -c.2)
theorem backC_len (cs : Ch) : (backC cs).length = cs.length := by simp [backC]
theorem chs_getr {cs : Ch} {i : Nat} (hi : i < cs.length) : (chs cs)[(((chs cs).length : Int) - 1 - (i : Int)).toNat]? = some (.agg [iv (cs[cs.length - 1 - i]).1, iv (cs[cs.length - 1 - i]).2]) := by
  have : (((chs cs).length : Int) - 1 - (i : Int)).toNat = cs.length - 1 - i := by rw [chs_len]; omega
  rw [this]
  simp [chs, show cs.length - 1 - i < cs.length by omega]
theorem backC_get {cs : Ch} {i : Nat} (hi : i < cs.length) : (backC cs)[i]? = some ((cs[cs.length - 1 - i]).1, -(cs[cs.length - 1 - i]).2) := by
  simp [backC, hi]
theorem chs_cells (l : Ch) (c : Nat × Int) : (chs (l ++ [c])).flatMap AVal.cells = (chs l).flatMap AVal.cells ++ [AVal.agg [iv c.1, iv c.2]].flatMap AVal.cells := by simp [chs]
theorem chs_good : ∀ (l : Ch), (chs l).all (fun x => x.good && Nat.beq x.cells.length 2) = true
  | [] => rfl
  | c :: l => by
    have := chs_good l
    simp only [chs, List.map_cons, List.all_cons] at this ⊢
    rw [this]; rfl
variable {ρ : Option Nat} {P : Program} {st : ASt} {V : View}
  {d : Option Tmp} {ty : TypeId} {pos : String} {aft : Array Edge} {gd : Option (Nat × Bool)}
theorem s_neg64 {t : TypeId} {y : Operand} {i : Int} (hy : Ev st y (iv i)) (h0 : -1099511627776 ≤ i) (h1 : i ≤ 1099511627776) : OpS ρ P ⟨d, .unOp .neg t y, ty, pos, aft, gd⟩ st V (One (iv (-i)) V) := by
  have := s_neg (ρ := ρ) (P := P) (V := V) (d := d) (ty := ty) (pos := pos) (aft := aft) (gd := gd) (t := t) hy
  rwa [wrap64_id (by omega) (by omega), Int.zero_sub] at this
def roomF (A U : Nat → Int) (k : Int) : List AVal := if 0 ≤ k ∧ k < 4 then [iv (A k.toNat - U k.toNat), iv 0] else [iv 0, iv 2]
def limF (A U : Nat → Int) (k : Int) : List AVal :=
  if 0 ≤ k ∧ k < 4 then (if 40 < U k.toNat then [.agg (bk zf zf), iv 252] else [.agg (bk (upd A k.toNat 40) U), iv 0]) else [.agg (bk zf zf), iv 2]
end Go.AV
namespace Go.Proofs
open Go.AV
theorem bk_back {cs : Ch} (h : okC cs) (V : View) : ACalls Try.prog 14 [.tree 2 (chs cs)] V fun x V' => x = .tuple [.tree 2 (chs (backC cs)), iv 0] ∧ V' = V := by
  have hlen := h.1
  have hl := chs_len cs
  refine a_fn (fn := Try.f14) Try.func14 rfl ?_ rfl
  refine a_seq (a_region ?_)
  refine a_v rfl (s_assign ev_c) ?_
  refine a_v rfl (s_assign ev_c) ?_
  refine a_nil ?_
  refine a_seq (a_seq (a_region ?_))
  refine a_v rfl (s_move (ev_t rfl)) ?_
  refine a_vp rfl (s_call Try.okF44 ev_f (.cons (ev_t rfl) .nil) (bk_check h _)) fun x V' hx => ?_
  obtain ⟨rfl, hVV⟩ := hx; have hVV := hVV.symm; subst hVV
  refine a_v rfl (s_assign (ev_t rfl)) ?_
  refine a_nil ?_
  refine a_seq (a_region ?_)
  refine a_v rfl (s_move (ev_t rfl)) ?_
  refine a_v rfl (s_cmp (ev_t rfl) ev_c rfl) ?_
  refine a_nil ?_
  refine a_cond (ev_t rfl) (fun hc => ?_) (fun hc => a_skip ?_)
  · exfalso; simp at hc
  refine a_seq (a_region ?_)
  refine a_v rfl (s_assign ev_c) ?_
  refine a_nil ?_
  refine a_seq (a_seq (a_region ?_))
  refine a_v rfl (s_move (ev_t rfl)) ?_
  refine a_v rfl (s_lent Try.us50 (ev_t rfl)) ?_
  refine a_v rfl (s_move ev_c) ?_
  refine a_nil ?_
  refine a_block ?_
  refine a_loop (fun n st V' => ∃ (i : Nat) (l : List (Nat × AVal)) (x : AVal) (V₁ : View), n = cs.length - i ∧ i ≤ cs.length ∧ st = ⟨l, 37⟩ ∧ SubT [(15, iv i), (14, iv (chs cs).length), (5, x), (0, .tree 2 (chs cs))] l ∧ Acc V' x 2 i ((chs ((backC cs).take i)).flatMap AVal.cells) V₁ ∧ View.le V V₁) ?_ cs.length _ _ ⟨0, _, _, V, rfl, by omega, rfl, ⟨rfl, rfl, rfl, rfl, trivial⟩, .inl ⟨rfl, rfl, rfl, rfl⟩, View.le_refl _⟩
  rintro n st V' ⟨i, l, x, V₁, rfl, hi, rfl, hs, hA, kl⟩
  refine a_forget hs ?_
  refine a_seq (a_region ?_)
  refine a_v rfl (s_cmp (ev_t rfl) (ev_t rfl) rfl) ?_
  refine a_nil ?_
  refine a_seq (a_cond (ev_t rfl) (fun hc => a_skip ?_) (fun hc => a_exit ?_))
  · have hi' : i < cs.length := by simp [chs_len] at hc; omega
    have hk := h.get (i := cs.length - 1 - i) (by omega)
    have hb := backC_get hi'
    refine a_seq (a_block ?_)
    refine a_seq (a_region ?_)
    refine a_v rfl (s_move (ev_t rfl)) ?_
    refine a_v rfl (s_assign (ev_t rfl)) ?_
    refine a_nil ?_
    refine a_seq (a_region ?_)
    refine a_v rfl (s_move (ev_t rfl)) ?_
    refine a_v rfl (s_move (ev_t rfl)) ?_
    refine a_v rfl (s_lent Try.us50 (ev_t rfl)) ?_
    refine a_v rfl (s_sub (ev_t rfl) ev_c (by omega) (by omega)) ?_
    refine a_v rfl (s_move (ev_t rfl)) ?_
    refine a_v rfl (s_sub (ev_t rfl) (ev_t rfl) (by omega) (by omega)) ?_
    refine a_v rfl (s_idxt Try.sl50 (ev_t rfl) (ev_t rfl) (by omega) (chs_getr hi')) ?_
    refine a_v rfl (s_loadr Try.sh52 rfl (ev_t rfl) (ref2 _ _)) ?_
    refine a_vp rfl (s_alloc Try.z52) fun x V' hx => ?_
    obtain ⟨b7, nb7, rfl, rfl⟩ := hx
    have hA' := (hA.set (.row (List.map AVal.v (Value.agg #[Value.int IntKind.i64 0, Value.int IntKind.i64 0]).cells.toList)) nb7)
    refine a_s (s_store Try.sh52 (ev_t rfl) (ev_t rfl) (View.set_same _ _ _) rfl rfl (by first | decide | (simp [ints, four]; done) | (simp [ints, four]; omega))) ?_
    refine a_nil ?_
    refine a_region ?_
    refine a_v rfl (s_move (ev_t rfl)) ?_
    refine a_v rfl (s_fieldAddr Try.f52_0 rfl (ev_t rfl)) ?_
    refine a_v rfl (s_load Try.sh3 (ev_t rfl) (View.set_same _ _ _) rfl) ?_
    refine a_v rfl (s_fieldAddr Try.f52_1 rfl (ev_t rfl)) ?_
    refine a_v rfl (s_load Try.sh3 (ev_t rfl) (View.set_same _ _ _) rfl) ?_
    refine a_v rfl (s_neg64 (ev_t rfl) hk.2.1 hk.2.2) ?_
    refine a_v rfl (s_build Try.z52 Try.pl52 (.cons (ev_t rfl) (.cons (ev_t rfl) .nil)) rfl) ?_
    refine a_v rfl (s_lit (els := [.agg [iv (cs[cs.length - 1 - i]).1, iv (-(cs[cs.length - 1 - i]).2)]]) Try.sl50 Try.z52 rfl rfl (.cons (ev_t rfl) .nil) rfl rfl rfl) ?_
    refine a_vp rfl (s_acc Try.sl50 Try.src50 Try.z52 rfl Try.by52 (ev_t rfl) (by rw [View.set_set]; exact hA.set _ nb7) (src_tree (ev_t rfl) (by rfl)) (by rfl) (by simp; omega) (by simp; omega)) fun x V' hx => ?_
    skip
    refine a_v rfl (s_assign (ev_t rfl)) ?_
    refine a_nil ?_
    refine a_region ?_
    refine a_v rfl (s_add (ev_t rfl) ev_c (by omega) (by omega)) ?_
    refine a_v rfl (s_move (ev_t rfl)) ?_
    refine a_nil ?_
    have ht : (chs ((backC cs).take (i + 1))).flatMap AVal.cells = (chs ((backC cs).take i)).flatMap AVal.cells ++ [.agg [iv (cs[cs.length - 1 - i]).1, iv (-(cs[cs.length - 1 - i]).2)]].flatMap AVal.cells := by
      rw [List.take_add_one, hb]; exact chs_cells _ _
    exact ⟨cs.length - (i + 1), by omega, i + 1, _, _, _, rfl, by omega, rfl, ⟨rfl, rfl, rfl, rfl, trivial⟩, by rw [ht]; exact hx, View.le_set kl (View.le_none kl (hA.none nb7))⟩
  repeat first | refine thenA_x ?_ | refine blockA_hit ?_ | refine blockA_x (by decide) ?_
  have hi4 : i = cs.length := by simp [chs_len] at hc; omega
  subst hi4
  have hfull : (backC cs).take cs.length = backC cs := by rw [← backC_len]; exact List.take_length
  rw [hfull] at hA
  refine a_acc_tree hA rfl (by rw [chs_len, backC_len]) (chs_good _) (t := 5) rfl ?_
  refine a_seq (a_region ?_)
  refine a_v rfl (s_move (ev_t rfl)) ?_
  refine a_v rfl (s_assign (ev_t rfl)) ?_
  refine a_v rfl (s_assign ev_c) ?_
  refine a_nil ?_
  refine a_ret ?_
  exact ⟨[_, _], V, ⟨_, _, rfl, ev_t rfl, _, _, rfl, ev_t rfl, rfl⟩, kl, rfl, rfl⟩
#print axioms bk_back
theorem bk_room {A U : Nat → Int} (hb : okB A U) (k : Int) (V : View) : ACalls Try.prog 15 [.agg (bk A U), iv k] V fun x V' => x = .tuple (roomF A U k) ∧ V' = V := by
  refine a_fn (fn := Try.f15) Try.func15 rfl ?_ rfl
  refine a_seq (a_region ?_)
  refine a_vp rfl (s_box (ev_t rfl) rfl) fun x V' hx => ?_
  obtain ⟨b2, nb2, rfl, rfl⟩ := hx
  have vb2 : V b2 = none := by simpa [View.set, ] using nb2
  refine a_v rfl (s_assign ev_c) ?_
  refine a_v rfl (s_assign ev_c) ?_
  refine a_nil ?_
  refine a_seq (a_block ?_)
  refine a_seq (a_region ?_)
  refine a_v rfl (s_load Try.sh49 (ev_t rfl) (by simp [View.set, View.drop, vb2] <;> first | exact ⟨rfl, rfl⟩ | exact rfl) bkA) ?_
  refine a_vp rfl (s_call Try.okF45 ev_f (.cons (ev_t rfl) .nil) (bk_right hb _)) fun x V' hx => ?_
  obtain ⟨rfl, hVV⟩ := hx; have hVV := hVV.symm; subst hVV
  refine a_v rfl (s_not (ev_t rfl)) ?_
  refine a_v rfl (s_assign (ev_t rfl)) ?_
  refine a_nil ?_
  refine a_cond (ev_t rfl) (fun hc => ?_) (fun hc => ?_)
  · exfalso; simp at hc
  refine a_seq (a_region ?_)
  refine a_v rfl (s_move (ev_t rfl)) ?_
  refine a_vp rfl (s_call Try.okF46 ev_f (.cons (ev_t rfl) .nil) (bk_is k _)) fun x V' hx => ?_
  obtain ⟨rfl, hVV⟩ := hx; have hVV := hVV.symm; subst hVV
  refine a_v rfl (s_not (ev_t rfl)) ?_
  refine a_v rfl (s_assign (ev_t rfl)) ?_
  refine a_nil ?_
  refine a_cond (ev_t rfl) (fun hc2 => ?_) (fun hc2 => a_skip ?_)
  · have hk : ¬ (0 ≤ k ∧ k < 4) := by simp at hc2; omega
    refine a_seq (a_region ?_)
    refine a_v rfl (s_assign ev_c) ?_
    refine a_v rfl (s_assign ev_c) ?_
    refine a_nil ?_
    refine a_ret ?_
    exact ⟨[_, _], V, ⟨_, _, rfl, ev_t rfl, _, _, rfl, ev_t rfl, rfl⟩, View.le_self_set nb2, by rw [roomF, if_neg hk]; rfl, rfl⟩
  have hk : 0 ≤ k ∧ k < 4 := by simp at hc2; omega
  obtain ⟨j, rfl⟩ : ∃ j : Nat, k = (j : Int) := ⟨k.toNat, by omega⟩
  have hj : j < 4 := by omega
  have hbk := hb j hj
  refine a_seq (a_draw [false, false, false, false, false, false, false, false, false, false, false] (_) Try.mixed rfl rfl (View.le_refl _) ?_)
  refine d_v (fun V' hU => f_plain rfl (s_move (ev_o rfl rfl))) ?_
  refine d_v (fun V' hU => f_plain rfl (s_fieldAddr Try.f49_0 rfl (ev_o rfl rfl))) ?_
  refine d_v (fun V' hU => f_plain rfl (s_idxa Try.ar24 (ev_o rfl rfl) (ev_o rfl rfl) (by omega) (by omega))) ?_
  refine d_v (fun V' hU => f_plain rfl (s_load Try.sh3 (ev_o rfl rfl) (hU _ _ (by simp [View.set, View.drop, vb2] <;> first | exact ⟨rfl, rfl⟩ | exact rfl)) (bkL hj (by simp)))) ?_
  refine d_v (fun V' hU => f_plain rfl (s_move (ev_o rfl rfl))) ?_
  refine d_v (fun V' hU => f_plain rfl (s_fieldAddr Try.f49_1 rfl (ev_o rfl rfl))) ?_
  refine d_v (fun V' hU => f_plain rfl (s_idxa Try.ar24 (ev_o rfl rfl) (ev_o rfl rfl) (by omega) (by omega))) ?_
  refine d_v (fun V' hU => f_plain rfl (s_load Try.sh3 (ev_o rfl rfl) (hU _ _ (by simp [View.set, View.drop, vb2] <;> first | exact ⟨rfl, rfl⟩ | exact rfl)) (bkU hj (by simp)))) ?_
  refine d_v (fun V' hU => f_plain rfl (s_sub (ev_o rfl rfl) (ev_o rfl rfl) (by omega) (by omega))) ?_
  refine d_v (fun V' hU => f_plain rfl (s_assign (ev_o rfl rfl))) ?_
  refine d_v (fun V' hU => f_plain rfl (s_assign ev_c)) ?_
  refine d_nil ?_
  refine a_ret ?_
  exact ⟨[_, _], V, ⟨_, _, rfl, ev_t rfl, _, _, rfl, ev_t rfl, rfl⟩, View.le_self_set nb2, by rw [roomF, if_pos hk]; rfl, rfl⟩
theorem bk_limit {A U : Nat → Int} (hb : okB A U) (k : Int) (V : View) : ACalls Try.prog 16 [.agg (bk A U), iv k, iv 40] V fun x V' => x = .tuple (limF A U k) ∧ V' = V := by
  refine a_fn (fn := Try.f16) Try.func16 rfl ?_ rfl
  refine a_seq (a_region ?_)
  refine a_vp rfl (s_box (ev_t rfl) rfl) fun x V' hx => ?_
  obtain ⟨b3, nb3, rfl, rfl⟩ := hx
  have vb3 : V b3 = none := by simpa [View.set, ] using nb3
  refine a_vp rfl (s_alloc Try.z49) fun x V' hx => ?_
  obtain ⟨b6, nb6, rfl, rfl⟩ := hx
  have eb6b3 : ¬ b6 = b3 := by rintro rfl; simp [View.set, vb3] at nb6
  have eb6b3' : ¬ b3 = b6 := fun h => eb6b3 h.symm
  have vb6 : V b6 = none := by simpa [View.set, vb3, eb6b3, eb6b3'] using nb6
  refine a_v rfl (s_assign ev_c) ?_
  refine a_nil ?_
  refine a_seq (a_block ?_)
  refine a_seq (a_region ?_)
  refine a_v rfl (s_load Try.sh49 (ev_t rfl) (by simp [View.set, View.drop, vb3, eb6b3, eb6b3', vb6] <;> first | exact ⟨rfl, rfl⟩ | exact rfl) bkA) ?_
  refine a_vp rfl (s_call Try.okF45 ev_f (.cons (ev_t rfl) .nil) (bk_right hb _)) fun x V' hx => ?_
  obtain ⟨rfl, hVV⟩ := hx; have hVV := hVV.symm; subst hVV
  refine a_v rfl (s_not (ev_t rfl)) ?_
  refine a_v rfl (s_assign (ev_t rfl)) ?_
  refine a_nil ?_
  refine a_cond (ev_t rfl) (fun hc => ?_) (fun hc => ?_)
  · exfalso; simp at hc
  refine a_seq (a_region ?_)
  refine a_v rfl (s_move (ev_t rfl)) ?_
  refine a_vp rfl (s_call Try.okF46 ev_f (.cons (ev_t rfl) .nil) (bk_is k _)) fun x V' hx => ?_
  obtain ⟨rfl, hVV⟩ := hx; have hVV := hVV.symm; subst hVV
  refine a_v rfl (s_not (ev_t rfl)) ?_
  refine a_v rfl (s_assign (ev_t rfl)) ?_
  refine a_nil ?_
  refine a_cond (ev_t rfl) (fun hc2 => ?_) (fun hc2 => ?_)
  · have hk : ¬ (0 ≤ k ∧ k < 4) := by simp at hc2; omega
    refine a_seq (a_region ?_)
    refine a_v rfl (s_build Try.z49 Try.pl49 .nil rfl) ?_
    refine a_s (s_store Try.sh49 (ev_t rfl) (ev_t rfl) (by simp [View.set, View.drop, vb3, eb6b3, eb6b3', vb6] <;> first | exact ⟨rfl, rfl⟩ | exact rfl) rfl rfl (by first | decide | (simp [ints, four]; done) | (simp [ints, four]; omega))) ?_
    refine a_v rfl (s_assign ev_c) ?_
    refine a_nil ?_
    refine a_ret ?_
    exact ⟨[_, _], V, ⟨_, _, true, 8, b6, 0, bk zf zf, none, rfl, Try.sh49, ev_t rfl, by simp [View.set, vb3, eb6b3, eb6b3', vb6] <;> rfl, bkA, _, _, rfl, ev_t rfl, rfl⟩, View.le_set (View.le_set (View.le_set (View.le_refl _) vb3) vb6) vb6, by rw [limF, if_neg hk]; rfl, rfl⟩
  have hk : 0 ≤ k ∧ k < 4 := by simp at hc2; omega
  obtain ⟨j, rfl⟩ : ∃ j : Nat, k = (j : Int) := ⟨k.toNat, by omega⟩
  have hj : j < 4 := by omega
  have hbk := hb j hj
  refine a_seq (a_region ?_)
  refine a_v rfl (s_move (ev_t rfl)) ?_
  refine a_v rfl (s_cmp (ev_t rfl) ev_c rfl) ?_
  refine a_v rfl (s_move (ev_t rfl)) ?_
  refine a_f rfl (f_guard rfl (gd_b rfl (ev_t rfl)) fun h2 => s_move (ev_t rfl)) ?_
  refine a_f rfl (f_guard rfl (gd_b rfl (ev_t rfl)) fun h2 => s_move (ev_t rfl)) ?_
  refine a_f rfl (f_guard rfl (gd_b rfl (ev_t rfl)) fun h2 => s_fieldAddr Try.f49_1 rfl (ev_t rfl)) ?_
  refine a_f rfl (f_guard rfl (gd_b rfl (ev_t rfl)) fun h2 => s_idxa Try.ar24 (ev_cond (ev_t rfl) h2) (ev_cond (ev_t rfl) h2) (by omega) (by omega)) ?_
  refine a_f rfl (f_guard rfl (gd_b rfl (ev_t rfl)) fun h2 => s_load Try.sh3 (ev_cond (ev_t rfl) h2) (by simp [View.set, View.drop, vb3, eb6b3, eb6b3', vb6] <;> first | exact ⟨rfl, rfl⟩ | exact rfl) (bkU hj (by simp))) ?_
  refine a_f rfl (f_guard rfl (gd_b rfl (ev_t rfl)) fun h2 => s_cmp (ev_cond (ev_t rfl) h2) (ev_cond (ev_t rfl) h2) rfl) ?_
  refine a_v rfl (s_pickand (ev_t rfl) (ev_t rfl)) ?_
  refine a_v rfl (s_assign (ev_t rfl)) ?_
  refine a_nil ?_
  refine a_cond (ev_t rfl) (fun hc3 => ?_) (fun hc3 => a_skip ?_)
  · have h40 : 40 < U (j : Int).toNat := by simpa using hc3
    refine a_seq (a_region ?_)
    refine a_v rfl (s_build Try.z49 Try.pl49 .nil rfl) ?_
    refine a_s (s_store Try.sh49 (ev_t rfl) (ev_t rfl) (by simp [View.set, View.drop, vb3, eb6b3, eb6b3', vb6] <;> first | exact ⟨rfl, rfl⟩ | exact rfl) rfl rfl (by first | decide | (simp [ints, four]; done) | (simp [ints, four]; omega))) ?_
    refine a_v rfl (s_assign ev_c) ?_
    refine a_nil ?_
    refine a_ret ?_
    exact ⟨[_, _], V, ⟨_, _, true, 8, b6, 0, bk zf zf, none, rfl, Try.sh49, ev_t rfl, by simp [View.set, vb3, eb6b3, eb6b3', vb6] <;> rfl, bkA, _, _, rfl, ev_t rfl, rfl⟩, View.le_set (View.le_set (View.le_set (View.le_refl _) vb3) vb6) vb6, by rw [limF, if_pos hk, if_pos h40]; rfl, rfl⟩
  have h40 : ¬ 40 < U (j : Int).toNat := by simpa using hc3
  have hj' : (j : Int).toNat = j := by simp
  have hb' : okB (upd A (j : Int).toNat 40) U := by
    intro m hm
    have := hb m hm
    simp only [upd]
    split
    · rename_i he; rw [hj'] at he h40; subst he; omega
    · exact this
  refine a_seq (a_region ?_)
  refine a_v rfl (s_move (ev_t rfl)) ?_
  refine a_v rfl (s_move (ev_t rfl)) ?_
  refine a_v rfl (s_fieldAddr Try.f49_0 rfl (ev_t rfl)) ?_
  refine a_v rfl (s_idxa Try.ar24 (ev_t rfl) (ev_t rfl) (by omega) (by omega)) ?_
  refine a_s (s_storew Try.sh3 (ev_t rfl) (ev_t rfl) (by simp [View.set, View.drop, vb3, eb6b3, eb6b3', vb6] <;> first | exact ⟨rfl, rfl⟩ | exact rfl) rfl rfl (by simp [ints, four]; omega) ((bkwL hj (by simp)).trans (congrArg (fun q => bk (upd A q 40) U) hj'.symm))) ?_
  refine a_nil ?_
  refine a_seq (a_seq (a_region ?_))
  refine a_v rfl (s_load Try.sh49 (ev_t rfl) (by simp [View.set, View.drop, vb3, eb6b3, eb6b3', vb6] <;> first | exact ⟨rfl, rfl⟩ | exact rfl) bkA) ?_
  refine a_vp rfl (s_call Try.okF45 ev_f (.cons (ev_t rfl) .nil) (bk_right hb' _)) fun x V' hx => ?_
  obtain ⟨rfl, hVV⟩ := hx; have hVV := hVV.symm; subst hVV
  refine a_v rfl (s_not (ev_t rfl)) ?_
  refine a_nil ?_
  refine a_cond (ev_t rfl) (fun hc => ?_) (fun hc => a_skip ?_)
  · exfalso; simp at hc
  refine a_seq (a_region ?_)
  refine a_v rfl (s_load Try.sh49 (ev_t rfl) (by simp [View.set, View.drop, vb3, eb6b3, eb6b3', vb6] <;> first | exact ⟨rfl, rfl⟩ | exact rfl) bkA) ?_
  refine a_s (s_storew Try.sh49 (ev_t rfl) (ev_t rfl) (by simp [View.set, View.drop, vb3, eb6b3, eb6b3', vb6] <;> first | exact ⟨rfl, rfl⟩ | exact rfl) rfl rfl (by first | decide | (simp [ints, four]; done) | (simp [ints, four]; omega)) (wrBA (L := zf) (U := zf))) ?_
  refine a_v rfl (s_assign ev_c) ?_
  refine a_nil ?_
  refine a_ret ?_
  exact ⟨[_, _], V, ⟨_, _, true, 8, b6, 0, bk (upd A (j : Int).toNat 40) U, none, rfl, Try.sh49, ev_t rfl, by simp [View.set, vb3, eb6b3, eb6b3', vb6] <;> rfl, bkA, _, _, rfl, ev_t rfl, rfl⟩, View.le_set (View.le_set (View.le_set (View.le_set (View.le_refl _) vb3) vb6) vb3) vb6, by rw [limF, if_pos hk, if_neg h40]; rfl, rfl⟩
#print axioms bk_limit
end Go.Proofs
