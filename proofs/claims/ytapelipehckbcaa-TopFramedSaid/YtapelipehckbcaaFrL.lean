/- Frames and records: the walk through records that are written down by hand, and through bytes that come in pieces. -/
import Derived.Test.YtapelipehckbcaaFrK
set_option linter.unusedVariables false
set_option linter.unusedSimpArgs false
namespace Go.AV
abbrev Rec := UInt8 × List UInt8
def recT (l : List Rec) : List AVal := l.map fun r => .agg [.v (.int .u8 (r.1.toNat : Int)), .tree 1 (byT r.2)]
theorem recT_len (l : List Rec) : (recT l).length = l.length := by simp [recT]
theorem recG {l : List Rec} {i : Nat} (h : i < l.length) : (recT l)[((i : Nat) : Int).toNat]? = some (.agg [.v (.int .u8 ((l[i]).1.toNat : Int)), .tree 1 (byT (l[i]).2)]) := by simp [recT, h]
/-- The fields of records, one above the other. -/
def ffs : Int → List Rec → List Fld
  | _, [] => []
  | tag, r :: l => (tag + (1 + (r.1.toNat : Int).tmod 20), r.2.take (min r.2.length 300)) :: ffs (tag + (1 + (r.1.toNat : Int).tmod 20)) l
def fields56 (l : List Rec) : List Fld := ffs 0 (l.take 9)
theorem tmod20 (n : Nat) : 0 ≤ (n : Int).tmod 20 ∧ (n : Int).tmod 20 < 20 := by
  have h1 := Int.tmod_nonneg (a := (n : Int)) 20 (by omega)
  have h2 := Int.tmod_lt_of_pos (n : Int) (b := 20) (by omega)
  exact ⟨h1, h2⟩
theorem ffs_right : ∀ (l : List Rec) (tag left : Int), tag + 20 * l.length ≤ 200 → 300 * (l.length : Int) ≤ left → rightGo tag left (ffs tag l) = true
  | [], tag, left, _, _ => rfl
  | r :: l, tag, left, h1, h2 => by
    have h3 := tmod20 r.1.toNat
    simp only [ffs, rightGo, List.length_cons] at h1 h2 ⊢
    have h4 : ((r.2.take (min r.2.length 300)).length : Int) ≤ 300 := by simp; omega
    rw [if_neg (by push_cast at h1 h2; omega)]
    exact ffs_right l _ _ (by push_cast at h1 h2; omega) (by push_cast at h1 h2; omega)
theorem ffs_len : ∀ (l : List Rec) (tag : Int), (ffs tag l).length = l.length
  | [], _ => rfl
  | r :: l, tag => by simp [ffs, ffs_len l]
theorem fields56_right (l : List Rec) : rightF (fields56 l) = true := by
  have h9 : (l.take 9).length ≤ 9 := by simp; omega
  simp only [rightF, fields56, Bool.and_eq_true, decide_eq_true_eq, ffs_len]
  exact ⟨ffs_right _ 0 16384 (by omega) (by omega), by omega⟩
theorem ffs_drop {l : List Rec} {i : Nat} (h : i < l.length) (tag : Int) : ffs tag (l.drop i) = (tag + (1 + ((l[i]).1.toNat : Int).tmod 20), (l[i]).2.take (min (l[i]).2.length 300)) :: ffs (tag + (1 + ((l[i]).1.toNat : Int).tmod 20)) (l.drop (i + 1)) := by
  rw [List.drop_eq_getElem_cons h, ffs]
theorem recF_cons (f : Fld) (l : List Fld) : recF (f :: l) = UInt8.ofNat f.1.toNat :: (form f.2.length ++ f.2) ++ recF l := by simp [recF]
end Go.AV
namespace Go.Proofs
open Go.AV
theorem fr_fields56 (l : List Rec) (V : View) : ACalls Try.prog 29 [.tree 2 (recT l)] V (One (.tuple [.tree 2 (flT (fields56 l)), .tree 1 (byT (recF (fields56 l)))]) V) := by
  refine a_fn (fn := Try.f29) Try.func29 rfl ?_ rfl
  refine a_seq (a_region ?_)
  refine a_v rfl (s_assign ev_c) ?_
  refine a_v rfl (s_assign ev_c) ?_
  refine a_nil ?_
  refine a_seq (a_region ?_)
  refine a_v rfl (s_assign ev_c) ?_
  refine a_nil ?_
  refine a_seq (a_region ?_)
  refine a_v rfl (s_assign ev_c) ?_
  refine a_nil ?_
  refine a_seq (a_region ?_)
  refine a_v rfl (s_assign ev_c) ?_
  refine a_nil ?_
  refine a_seq (a_seq (a_region ?_))
  refine a_v rfl (s_assign ev_c) ?_
  refine a_nil ?_
  refine a_block ?_
  refine a_loop (fun n st V' => ∃ (i : Nat) (lt : List (Nat × AVal)) (x y : AVal) (fl : List Fld) (c : List UInt8) (tag : Int) (V₁ V₂ : View), 9 - i = n ∧ i ≤ 9 ∧ i ≤ l.length ∧ 0 ≤ tag ∧ tag ≤ 20 * i ∧ c.length ≤ 400 * i ∧ st = ⟨lt, 62⟩ ∧ SubT [(0, .tree 2 (recT l)), (4, x), (5, y), (6, iv tag), (7, iv i)] lt ∧
    Acc V' y 1 c.length (byT c) V₁ ∧ Acc V₁ x 2 i ((flT fl).flatMap AVal.cells) V₂ ∧ V.le V₂ ∧ fl.length = i ∧ fields56 l = fl ++ ffs tag ((l.take 9).drop i) ∧ recF (fields56 l) = c ++ recF (ffs tag ((l.take 9).drop i))) ?_ 9 _ _ ⟨0, _, _, _, [], [], 0, V, V, rfl, by omega, by omega, by omega, by omega, by simp, rfl, ⟨rfl, rfl, rfl, rfl, rfl, trivial⟩, accNil, accNil, View.le_refl _, rfl, rfl, rfl⟩
  rintro n st W ⟨i, lt, x, y, fl, c, tag, V₁, V₂, rfl, hi9, hil, ht0, ht1, hcl, rfl, hs, A5, A4, hV, hfl, hg, hr⟩
  refine a_forget hs ?_
  refine a_seq (a_seq (a_region ?_))
  refine a_v rfl (s_move (ev_t rfl)) ?_
  refine a_v rfl (s_move (ev_t rfl)) ?_
  refine a_v rfl (s_lent Try.us43 (ev_t rfl)) ?_
  refine a_v rfl (s_cmp (ev_t rfl) (ev_t rfl) rfl) ?_
  refine a_v rfl (s_move (ev_t rfl)) ?_
  refine a_f rfl (f_guard rfl (gd_b rfl (ev_t rfl)) fun h4 => s_move (ev_t rfl)) ?_
  refine a_f rfl (f_guard rfl (gd_b rfl (ev_t rfl)) fun h4 => s_cmp (ev_cond (ev_t rfl) h4) ev_c rfl) ?_
  refine a_v rfl (s_pickand (ev_t rfl) (ev_t rfl)) ?_
  refine a_nil ?_
  refine a_cond (ev_t rfl) (fun hc => a_skip ?_) (fun hc => a_exit ?_)
  · have hi' : i < l.length := by simp [recT_len] at hc; omega
    have hi9' : i < 9 := by simp at hc; omega
    have hit : i < (l.take 9).length := by simp; omega
    have hu8 := (l[i]).1.toNat_lt
    have hmod := tmod20 (l[i]).1.toNat
    have hgi : (l.take 9)[i] = l[i] := by simp
    rw [ffs_drop hit, hgi] at hg hr
    obtain ⟨tag', htag'⟩ : ∃ t, t = tag + (1 + ((l[i]).1.toNat : Int).tmod 20) := ⟨_, rfl⟩
    rw [← htag'] at hg hr
    have ht2 : 1 ≤ tag' ∧ tag' ≤ 20 * (i + 1) := by omega
    obtain ⟨bs, hbs⟩ : ∃ b, b = (l[i]).2.take (min (l[i]).2.length 300) := ⟨_, rfl⟩
    rw [← hbs] at hg hr
    have hbsl : bs.length ≤ 300 := by rw [hbs]; simp; omega
    have hform := form_len (n := bs.length) (by omega)
    have e1 : ((tag'.toNat : Nat) : Int) = tag' := by omega
    have hsl : ((l[i]).2.take (min (l[i]).2.length 300)).drop 0 = bs := by rw [List.drop_zero, hbs]
    refine a_seq (a_block ?_)
    refine a_seq (a_region ?_)
    refine a_v rfl (s_move (ev_t rfl)) ?_
    refine a_v rfl (s_move (ev_t rfl)) ?_
    refine a_v rfl (s_move (ev_t rfl)) ?_
    refine a_v rfl (s_idxt Try.sl43 (ev_t rfl) (ev_t rfl) (by omega) (recG hi')) ?_
    refine a_v rfl (s_fieldAddrr Try.f42_0 rfl (ev_t rfl) rfl (fun _ => rfl)) ?_
    refine a_v rfl (s_loadr Try.sh5 rfl (ev_t rfl) (ref1 rfl)) ?_
    refine a_v rfl (s_convw ⟨_, Try.ui5⟩ Try.ui3 (ev_t rfl) (wrap64_id (by omega) (by omega))) ?_
    refine a_v rfl (s_rem (ev_t rfl) ev_c (by omega)) ?_
    refine a_v rfl (s_add ev_c (ev_t rfl) (by omega) (by omega)) ?_
    refine a_v rfl (htag'.symm ▸ s_add (ev_t rfl) (ev_t rfl) (by omega) (by omega)) ?_
    refine a_v rfl (s_assign (ev_t rfl)) ?_
    refine a_nil ?_
    refine a_seq (a_draw [false, false, false, false, false, false, false, false, false, false, false, false, false, false] (_) Try.mixed rfl (by kernel_rfl) (View.le_refl _) ?_)
    refine d_v (fun V' hU => f_plain rfl (s_move (ev_o rfl rfl))) ?_
    refine d_v (fun V' hU => f_plain rfl (s_move (ev_o rfl rfl))) ?_
    refine d_v (fun V' hU => f_plain rfl (s_idxt Try.sl43 (ev_o rfl rfl) (ev_o rfl rfl) (by omega) (recG hi'))) ?_
    refine d_v (fun V' hU => f_plain rfl (s_fieldAddrr Try.f42_1 rfl (ev_o rfl rfl) rfl (fun _ => rfl))) ?_
    refine d_v (fun V' hU => f_plain rfl (s_loadr Try.sh39 rfl (ev_o rfl rfl) (refT _ _))) ?_
    refine d_v (fun V' hU => f_plain rfl (s_move (ev_o rfl rfl))) ?_
    refine d_v (fun V' hU => f_plain rfl (s_move (ev_o rfl rfl))) ?_
    refine d_v (fun V' hU => f_plain rfl (s_idxt Try.sl43 (ev_o rfl rfl) (ev_o rfl rfl) (by omega) (recG hi'))) ?_
    refine d_v (fun V' hU => f_plain rfl (s_fieldAddrr Try.f42_1 rfl (ev_o rfl rfl) rfl (fun _ => rfl))) ?_
    refine d_v (fun V' hU => f_plain rfl (s_loadr Try.sh39 rfl (ev_o rfl rfl) (refT _ _))) ?_
    refine d_v (fun V' hU => f_plain rfl (s_leny Try.us39 (ev_o rfl rfl))) ?_
    refine d_v (fun V' hU => f_plain rfl (s_min (ev_o rfl rfl) ev_c)) ?_
    refine d_v (fun V' hU => f_plain rfl (OpS.cast (congrArg (fun l => AVal.tree 1 (byT l)) hsl) (s_slicety Try.sl39 (ev_o rfl rfl) rfl (bnd_t (ev_o rfl rfl) (n := min (l[i]).2.length 300) (by omega)) (by omega) (by omega)))) ?_
    refine d_v (fun V' hU => f_plain rfl (s_assign (ev_o rfl rfl))) ?_
    refine d_nil ?_
    obtain ⟨V₃, C4, C5⟩ := accSwap A5 A4
    refine a_seq (a_region ?_)
    refine a_v rfl (s_move (ev_t rfl)) ?_
    refine a_v rfl (s_move (ev_t rfl)) ?_
    refine a_v rfl (s_move (ev_t rfl)) ?_
    refine a_v rfl (s_build Try.z100 Try.pl100 (.cons (ev_t rfl) (.cons (ev_t rfl) .nil)) rfl) ?_
    refine a_v rfl (s_litx Try.sl89 Try.z100 rfl rfl (.cons (ev_t rfl) .nil) rfl rfl rfl) ?_
    refine a_vp rfl (s_acc Try.sl89 Try.src89 Try.z100 rfl Try.by100 (ev_t rfl) C4 (src_one (ev_t rfl) rfl rfl) rfl (by omega) (by omega)) fun xv Vv hx => ?_
    have A47 := hx
    refine a_v rfl (s_assign (ev_t rfl)) ?_
    refine a_nil ?_
    obtain ⟨V₄, B5, B4⟩ := accSwap A47 C5
    refine a_region ?_
    refine a_v rfl (s_move (ev_t rfl)) ?_
    refine a_v rfl (s_move (ev_t rfl)) ?_
    refine a_v rfl (s_convw ⟨_, Try.ui3⟩ Try.ui5 (ev_t rfl) ((congrArg IntKind.u8.wrap e1.symm).trans (u8w _))) ?_
    refine a_v rfl (s_litx Try.sl39 Try.z5 rfl rfl (.cons (ev_t rfl) .nil) rfl rfl rfl) ?_
    refine a_vp rfl (s_acc Try.sl39 Try.src39 Try.z5 rfl Try.by5 (ev_t rfl) B5 (src_b1 (ev_t rfl)) rfl (by omega) (by omega)) fun xv Vv hx => ?_
    have A52 := hx
    refine a_v rfl (s_move (ev_t rfl)) ?_
    refine a_v rfl (s_leny Try.us39 (ev_t rfl)) ?_
    refine a_v rfl (s_convw ⟨_, Try.ui3⟩ Try.ui45 (ev_t rfl) (wrapu64 (by omega) (by omega))) ?_
    refine a_v rfl (s_call Try.okF9 ev_f (.cons (ev_t rfl) .nil) (fr_formT (by omega) _)) ?_
    refine a_vp rfl (s_acc Try.sl39 Try.src39 Try.z5 rfl Try.by5 (ev_t rfl) A52 (src_by (ev_t rfl)) (byT_one _) (by omega) (by omega)) fun xv Vv hx => ?_
    have A57 := hx
    refine a_v rfl (s_move (ev_t rfl)) ?_
    refine a_vp rfl (s_acc Try.sl39 Try.src39 Try.z5 rfl Try.by5 (ev_t rfl) A57 (src_by (ev_t rfl)) (byT_one _) (by omega) (by omega)) fun xv Vv hx => ?_
    have A59 := hx
    refine a_v rfl (s_assign (ev_t rfl)) ?_
    refine a_nil ?_
    refine a_region ?_
    refine a_v rfl (s_move (ev_t rfl)) ?_
    refine a_v rfl (s_add (ev_t rfl) ev_c (by omega) (by omega)) ?_
    refine a_v rfl (s_assign (ev_t rfl)) ?_
    refine a_nil ?_
    refine ⟨9 - (i + 1), by omega, i + 1, _, _, _, fl ++ [(tag', bs)], c ++ (UInt8.ofNat tag'.toNat :: (form bs.length ++ bs)), tag', _, _, rfl, by omega, by omega, by omega, by push_cast; omega, by simp; omega, rfl, ⟨rfl, rfl, rfl, rfl, rfl, trivial⟩, accCast A59 (by simp; omega) (by simp [byT]), accCast B4 rfl ?_, hV, by simp [hfl], ?_, ?_⟩
    · simp [flT, AVal.cells]; rfl
    · rw [hg]; simp
    · rw [hr, recF_cons]; simp
  repeat first | refine thenA_x ?_ | refine blockA_hit ?_ | refine blockA_x (by decide) ?_
  have hz : ffs tag ((l.take 9).drop i) = [] := by
    have : (l.take 9).length ≤ i := by simp [recT_len] at hc ⊢; omega
    rw [List.drop_of_length_le this]; rfl
  rw [hz] at hg hr
  simp only [List.append_nil] at hg
  have hr' : recF (fields56 l) = c := by rw [hr]; simp [recF]
  refine a_seq (a_region ?_)
  refine a_v rfl (s_move (ev_t rfl)) ?_
  refine a_v rfl (s_move (ev_t rfl)) ?_
  refine a_v rfl (s_assign (ev_t rfl)) ?_
  refine a_v rfl (s_assign (ev_t rfl)) ?_
  refine a_nil ?_
  refine a_acc_tree (t := 3) A5 (byT_els _) (byT_len _) (byT_good _) rfl ?_
  refine a_acc_tree (t := 2) A4 rfl (by rw [flT_len, hfl]) (flT_els _) rfl ?_
  refine a_ret ?_
  exact ⟨[_, _], V, ⟨_, _, rfl, ev_t rfl, _, _, rfl, ev_t rfl, rfl⟩, hV, by rw [hr', hg]; rfl, rfl⟩
#print axioms fr_fields56
end Go.Proofs
