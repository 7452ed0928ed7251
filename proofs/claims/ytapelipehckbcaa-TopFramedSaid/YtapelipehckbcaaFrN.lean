/- Frames and records: the walk through all of it. -/
import Derived.Test.YtapelipehckbcaaFrM
set_option linter.unusedVariables false
set_option linter.unusedSimpArgs false
namespace Go.AV
def recsT (l : List (List Rec)) : List AVal := l.map fun r => .tree 2 (recT r)
theorem recsT_len (l : List (List Rec)) : (recsT l).length = l.length := by simp [recsT]
theorem recsG {l : List (List Rec)} {i : Nat} (h : i < l.length) : (recsT l)[((i : Nat) : Int).toNat]? = some (.tree 2 (recT l[i])) := by simp [recsT, h]
/-- The bodies of records. -/
def bodies (l : List (List Rec)) : List (List UInt8) := (l.take 8).map fun r => recF (fields56 r)
theorem right_above : ∀ (l : List Fld) (last left : Int), rightGo last left l = true → ∀ f ∈ l, last < f.1
  | [], _, _, _, f, hf => by cases hf
  | g :: l, last, left, h, f, hf => by
    rw [rightGo] at h
    split at h
    · cases h
    · rename_i hn
      rcases List.mem_cons.1 hf with rfl | hf
      · omega
      · have := right_above l _ _ h f hf; omega
theorem getF_at : ∀ (l : List Fld) (last left : Int), rightGo last left l = true → ∀ (i : Nat) (h : i < l.length), getF l (l[i]).1 = ((l[i]).2, true)
  | [], _, _, _, i, h => by simp at h
  | g :: l, last, left, hr, i, h => by
    rw [rightGo] at hr
    split at hr
    · cases hr
    · cases i with
      | zero => simp [getF]
      | succ i =>
        simp only [List.getElem_cons_succ, List.length_cons] at h ⊢
        have h1 := right_above l _ _ hr _ (List.getElem_mem (Nat.lt_of_succ_lt_succ h))
        rw [getF, if_neg (by omega)]
        exact getF_at l _ _ hr i (by omega)
theorem fields56_get (r : List Rec) {i : Nat} (h : i < (fields56 r).length) : getF (fields56 r) ((fields56 r)[i]).1 = (((fields56 r)[i]).2, true) := by
  have := fields56_right r
  simp only [rightF, Bool.and_eq_true] at this
  exact getF_at _ _ _ this.1 i h
theorem ffs_size : ∀ (l : List Rec) (tag : Int), (recF (ffs tag l)).length ≤ 310 * l.length
  | [], _ => by simp [ffs, recF]
  | r :: l, tag => by
    rw [ffs, recF_cons]
    have h1 := ffs_size l (tag + (1 + (r.1.toNat : Int).tmod 20))
    have h2 : (r.2.take (min r.2.length 300)).length ≤ 300 := by simp; omega
    have h3 := form_len (n := (r.2.take (min r.2.length 300)).length) (by omega)
    simp only [List.length_append, List.length_cons]
    omega
theorem fields56_size (r : List Rec) : (recF (fields56 r)).length ≤ 2790 := by
  have := ffs_size (r.take 9) 0
  have h : (r.take 9).length ≤ 9 := by simp; omega
  unfold fields56; omega
theorem bodies_len (l : List (List Rec)) : (bodies l).length = min l.length 8 := by simp [bodies]; omega
theorem bodies_small {l : List (List Rec)} : ∀ B ∈ bodies l, B.length ≤ 2790 := by
  intro B hB
  simp only [bodies, List.mem_map] at hB
  obtain ⟨r, _, rfl⟩ := hB
  exact fields56_size r
theorem frs_size : ∀ (Bs : List (List UInt8)), (∀ B ∈ Bs, B.length ≤ 2790) → (frs Bs).length ≤ 2800 * Bs.length
  | [], _ => by simp [frs]
  | B :: Bs, h => by
    have h1 := frs_size Bs (fun x hx => h x (by simp [hx]))
    have h2 := h B (by simp)
    have h3 := form_len (n := B.length) (by omega)
    have : (frs (B :: Bs)).length = (frameOf B).length + (frs Bs).length := by simp [frs]
    rw [this, frameOf_len]; simp; omega
theorem wrap_i64_lt (n : Int) : -9223372036854775808 ≤ IntKind.i64.wrap n ∧ IntKind.i64.wrap n < 9223372036854775808 := by
  simp only [IntKind.wrap, IntKind.bits, IntKind.signed]
  simp; split <;> omega
theorem foldI_nat (y : Int) : (((foldI y).toNat : Nat) : Int) = foldI y := by unfold foldI; split <;> omega
theorem frs_take_len (Bs : List (List UInt8)) (i : Nat) : (frs (Bs.take i)).length ≤ (frs Bs).length := by
  have := congrArg List.length (frs_split Bs i); simp at this; omega
end Go.AV
namespace Go.Proofs
open Go.AV
theorem fr_unfold2 {y : Int} (h0 : -9223372036854775808 ≤ y) (h1 : y < 9223372036854775808) (V : View) : ACalls Try.prog 36 [.v (.int .u64 (foldI y))] V (One (iv y) V) := by
  have h := fr_unfold (x := (foldI y).toNat) (by unfold foldI; split <;> omega) V
  rw [unfold_fold] at h
  have e : uv (foldI y).toNat = .v (.int .u64 (foldI y)) := by rw [show uv (foldI y).toNat = AVal.v (.int .u64 (((foldI y).toNat : Nat) : Int)) from rfl, foldI_nat]
  rwa [e] at h
theorem fr_framed {l : List (List Rec)} {pieces : List UInt8} {ns : List Nat} {wrong : Bool} 
    (hp : pieces.length ≤ 140737488355328) (hn : ns.length ≤ 30) (hx : ∀ x ∈ ns, x < 18446744073709551616) (V : View) :
    ACalls Try.prog 8 [.tree 1 (recsT l), .tree 1 (byT pieces), .tree 1 (uvs ns), bv wrong] V (One (.tuple [iv (frs (bodies l)).length, bv true]) V) := by
  obtain ⟨Bs, hBs⟩ : ∃ B, B = bodies l := ⟨_, rfl⟩
  have hbl : Bs.length = min l.length 8 := by rw [hBs, bodies_len]
  have hbs : ∀ B ∈ Bs, B.length ≤ 2790 := by rw [hBs]; exact bodies_small
  have hfs := frs_size Bs hbs
  rw [← hBs]
  refine a_fn (fn := Try.f8) Try.func8 rfl ?_ rfl
  refine a_seq (a_region ?_)
  refine a_v rfl (s_assign ev_c) ?_
  refine a_v rfl (s_assign ev_c) ?_
  refine a_nil ?_
  refine a_seq (a_region ?_)
  refine a_v rfl (s_assign ev_c) ?_
  refine a_nil ?_
  refine a_seq (a_region ?_)
  refine a_v rfl (s_assign ev_c) ?_
  refine a_nil ?_
  refine a_seq (a_seq (a_region ?_))
  refine a_v rfl (s_assign ev_c) ?_
  refine a_nil ?_
  refine a_block ?_
  refine a_loop (fun n st V' => ∃ (i : Nat) (lt : List (Nat × AVal)) (x y : AVal) (V₁ V₂ : View), 8 - i = n ∧ i ≤ Bs.length ∧ st = ⟨lt, 251⟩ ∧ SubT [(0, .tree 1 (recsT l)), (1, .tree 1 (byT pieces)), (2, .tree 1 (uvs ns)), (3, bv wrong), (10, x), (11, y), (12, iv i)] lt ∧
    Acc V' x 1 (frs (Bs.take i)).length (byT (frs (Bs.take i))) V₁ ∧ Acc V₁ y 1 i (bysT (Bs.take i)) V₂ ∧ V.le V₂) ?_ 8 _ _ ⟨0, _, _, _, V, V, rfl, by omega, rfl, ⟨rfl, rfl, rfl, rfl, rfl, rfl, rfl, trivial⟩, accNil, accNil, View.le_refl _⟩
  rintro n₁ st W ⟨i, lt, x, y, V₁, V₂, rfl, hib, rfl, hs, A10, A11, hV⟩
  refine a_forget hs ?_
  refine a_seq (a_seq (a_region ?_))
  refine a_v rfl (s_move (ev_t rfl)) ?_
  refine a_v rfl (s_move (ev_t rfl)) ?_
  refine a_v rfl (s_lent Try.us38 (ev_t rfl)) ?_
  refine a_v rfl (s_cmp (ev_t rfl) (ev_t rfl) rfl) ?_
  refine a_v rfl (s_move (ev_t rfl)) ?_
  refine a_f rfl (f_guard rfl (gd_b rfl (ev_t rfl)) fun h4 => s_move (ev_t rfl)) ?_
  refine a_f rfl (f_guard rfl (gd_b rfl (ev_t rfl)) fun h4 => s_cmp (ev_cond (ev_t rfl) h4) ev_c rfl) ?_
  refine a_v rfl (s_pickand (ev_t rfl) (ev_t rfl)) ?_
  refine a_nil ?_
  refine a_cond (ev_t rfl) (fun hc => a_skip ?_) (fun hc => a_exit ?_)
  · have hi' : i < l.length := by simp [recsT_len] at hc; omega
    have hi8 : i < 8 := by simp at hc; omega
    have hiB : i < Bs.length := by omega
    obtain ⟨fl, hfl⟩ : ∃ f, f = fields56 l[i] := ⟨_, rfl⟩
    have hBi : Bs[i] = recF fl := by
      have : Bs = bodies l := hBs
      subst this
      simp [bodies, hfl]
    have hflr : rightF fl = true := by rw [hfl]; exact fields56_right _
    have hfll := (recF_len fl hflr).1
    have hflb := (recF_len fl hflr).2
    have hsz : (recF fl).length ≤ 2790 := by rw [hfl]; exact fields56_size _
    have hform := form_len (n := (recF fl).length) (by omega)
    have hft := frs_take_len Bs i
    refine a_seq (a_block ?_)
    refine a_seq (a_region ?_)
    refine a_v rfl (s_move (ev_t rfl)) ?_
    refine a_v rfl (s_move (ev_t rfl)) ?_
    refine a_v rfl (s_idxt Try.sl38 (ev_t rfl) (ev_t rfl) (by omega) (recsG hi')) ?_
    refine a_v rfl (s_loadr Try.sh43 rfl (ev_t rfl) (refT _ _)) ?_
    refine a_v rfl (s_call Try.okF29 ev_f (.cons (ev_t rfl) .nil) ((hfl ▸ fr_fields56 _ _ : ACalls Try.prog 29 [.tree 2 (recT l[i])] _ (One (.tuple [.tree 2 (flT fl), .tree 1 (byT (recF fl))]) _)))) ?_
    refine a_v rfl (s_move (ev_t rfl)) ?_
    refine a_v rfl (s_extract (ev_t rfl) rfl) ?_
    refine a_v rfl (s_extract (ev_t rfl) rfl) ?_
    refine a_v rfl (s_assign (ev_t rfl)) ?_
    refine a_v rfl (s_assign (ev_t rfl)) ?_
    refine a_nil ?_
    refine a_seq (a_region ?_)
    refine a_v rfl (s_move (ev_t rfl)) ?_
    refine a_v rfl (s_call Try.okF30 ev_f (.cons (ev_t rfl) .nil) (fr_fwrite _ hflr _)) ?_
    refine a_v rfl (s_move (ev_t rfl)) ?_
    refine a_v rfl (s_extract (ev_t rfl) rfl) ?_
    refine a_v rfl (s_extract (ev_t rfl) rfl) ?_
    refine a_v rfl (s_assign (ev_t rfl)) ?_
    refine a_v rfl (s_assign (ev_t rfl)) ?_
    refine a_nil ?_
    refine a_seq (a_region ?_)
    refine a_v rfl (s_move (ev_t rfl)) ?_
    refine a_v rfl (s_call Try.okF31 ev_f (.cons (ev_t rfl) .nil) (fr_fread hflr _)) ?_
    refine a_v rfl (s_move (ev_t rfl)) ?_
    refine a_v rfl (s_extract (ev_t rfl) rfl) ?_
    refine a_v rfl (s_extract (ev_t rfl) rfl) ?_
    refine a_v rfl (s_extract (ev_t rfl) rfl) ?_
    refine a_v rfl (s_assign (ev_t rfl)) ?_
    refine a_v rfl (s_assign (ev_t rfl)) ?_
    refine a_v rfl (s_assign (ev_t rfl)) ?_
    refine a_nil ?_
    refine a_seq (a_seq (a_region ?_))
    refine a_v rfl (s_move (ev_t rfl)) ?_
    refine a_v rfl (s_cmp (ev_t rfl) ev_c rfl) ?_
    refine a_v rfl (s_move (ev_t rfl)) ?_
    refine a_f rfl (f_guard rfl (gd_b rfl (ev_t rfl)) fun h2 => s_move (ev_t rfl)) ?_
    refine a_f rfl (f_guard rfl (gd_b rfl (ev_t rfl)) fun h2 => s_cmp (ev_cond (ev_t rfl) h2) ev_c rfl) ?_
    refine a_v rfl (s_pickor (ev_t rfl) (ev_t rfl)) ?_
    refine a_v rfl (s_move (ev_t rfl)) ?_
    refine a_f rfl (f_guard rfl (gd_b rfl (ev_t rfl)) fun h6 => s_move (ev_t rfl)) ?_
    refine a_f rfl (f_guard rfl (gd_b rfl (ev_t rfl)) fun h6 => s_cmp (ev_cond (ev_t rfl) h6) ev_c rfl) ?_
    refine a_v rfl (s_pickor (ev_t rfl) (ev_t rfl)) ?_
    refine a_v rfl (s_move (ev_t rfl)) ?_
    refine a_f rfl (f_guard rfl (gd_b rfl (ev_t rfl)) fun h10 => s_move (ev_t rfl)) ?_
    refine a_f rfl (f_guard rfl (gd_b rfl (ev_t rfl)) fun h10 => s_b2s Try.us39 Try.ui5 Try.ustr9 (ev_cond (ev_t rfl) h10)) ?_
    refine a_f rfl (f_guard rfl (gd_b rfl (ev_t rfl)) fun h10 => s_move (ev_t rfl)) ?_
    refine a_f rfl (f_guard rfl (gd_b rfl (ev_t rfl)) fun h10 => s_b2s Try.us39 Try.ui5 Try.ustr9 (ev_cond (ev_t rfl) h10)) ?_
    refine a_f rfl (f_guard rfl (gd_b rfl (ev_t rfl)) fun h10 => s_streq (ev_cond (ev_t rfl) h10) (ev_cond (ev_t rfl) h10) (.inr ⟨rfl, rfl⟩)) ?_
    refine a_v rfl (s_pickor (ev_t rfl) (ev_t rfl)) ?_
    refine a_v rfl (s_move (ev_t rfl)) ?_
    refine a_f rfl (f_guard rfl (gd_b rfl (ev_t rfl)) fun h17 => s_move (ev_t rfl)) ?_
    refine a_f rfl (f_guard rfl (gd_b rfl (ev_t rfl)) fun h17 => s_call Try.okF32 ev_f (.cons (ev_cond (ev_t rfl) h17) .nil) (fr_right _ (by omega) _)) ?_
    refine a_f rfl (f_guard rfl (gd_b rfl (ev_t rfl)) fun h17 => s_not (ev_cond (ev_t rfl) h17)) ?_
    refine a_v rfl (s_pickor (ev_t rfl) (ev_t rfl)) ?_
    refine a_v rfl (s_move (ev_t rfl)) ?_
    refine a_f rfl (f_guard rfl (gd_b rfl (ev_t rfl)) fun h22 => s_move (ev_t rfl)) ?_
    refine a_f rfl (f_guard rfl (gd_b rfl (ev_t rfl)) fun h22 => s_lent Try.us89 (ev_cond (ev_t rfl) h22)) ?_
    refine a_f rfl (f_guard rfl (gd_b rfl (ev_t rfl)) fun h22 => s_move (ev_t rfl)) ?_
    refine a_f rfl (f_guard rfl (gd_b rfl (ev_t rfl)) fun h22 => s_lent Try.us89 (ev_cond (ev_t rfl) h22)) ?_
    refine a_f rfl (f_guard rfl (gd_b rfl (ev_t rfl)) fun h22 => s_cmp (ev_cond (ev_t rfl) h22) (ev_cond (ev_t rfl) h22) rfl) ?_
    refine a_v rfl (s_pickor (ev_t rfl) (ev_t rfl)) ?_
    refine a_nil ?_
    refine a_cond (ev_t rfl) (fun hc => ?_) (fun hc => a_skip ?_)
    · exfalso; simp [ba_nself, hflr] at hc
    refine a_seq (a_seq (a_region ?_))
    refine a_v rfl (s_move (ev_t rfl)) ?_
    refine a_v rfl (s_lent Try.us89 (ev_t rfl)) ?_
    refine a_v rfl (s_move ev_c) ?_
    refine a_nil ?_
    refine a_cut1 (fun st V₁ => ∃ (lt : List (Nat × AVal)), st = ⟨lt, 251⟩ ∧ SubT [(0, .tree 1 (recsT l)), (1, .tree 1 (byT pieces)), (2, .tree 1 (uvs ns)), (3, bv wrong), (10, x), (11, y), (12, iv i), (13, .tree 2 (flT fl)), (14, .tree 1 (byT (recF fl))), (17, .tree 2 (flT fl))] lt ∧ W = V₁) ?_ ?_
    · refine a_block ?_
      refine a_loop (fun n st V' => ∃ (q : Nat) (lt : List (Nat × AVal)), fl.length - q = n ∧ q ≤ fl.length ∧ st = ⟨lt, 251⟩ ∧ SubT [(0, .tree 1 (recsT l)), (1, .tree 1 (byT pieces)), (2, .tree 1 (uvs ns)), (3, bv wrong), (10, x), (11, y), (12, iv i), (13, .tree 2 (flT fl)), (14, .tree 1 (byT (recF fl))), (17, .tree 2 (flT fl)), (90, iv (flT fl).length), (91, iv q)] lt ∧ W = V') ?_ fl.length _ _ ⟨0, _, rfl, by omega, rfl, ⟨rfl, rfl, rfl, rfl, rfl, rfl, rfl, rfl, rfl, rfl, rfl, rfl, trivial⟩, rfl⟩
      rintro n₂ st V' ⟨q, lt, rfl, hq, rfl, hs, rfl⟩
      refine a_forget hs ?_
      refine a_seq (a_region ?_)
      refine a_v rfl (s_cmp (ev_t rfl) (ev_t rfl) rfl) ?_
      refine a_nil ?_
      refine a_seq (a_cond (ev_t rfl) (fun hc => a_skip ?_) (fun hc => a_exit ?_))
      · have hk1 : q < fl.length := by simp [flT_len] at hc; omega
        have hget : getF fl (fl[q]).1 = ((fl[q]).2, true) := by subst hfl; exact fields56_get _ hk1
        refine a_seq (a_block ?_)
        refine a_seq (a_region ?_)
        refine a_v rfl (s_move (ev_t rfl)) ?_
        refine a_v rfl (s_assign (ev_t rfl)) ?_
        refine a_nil ?_
        refine a_seq (a_region ?_)
        refine a_v rfl (s_move (ev_t rfl)) ?_
        refine a_v rfl (s_move (ev_t rfl)) ?_
        refine a_v rfl (s_move (ev_t rfl)) ?_
        refine a_v rfl (s_idxt Try.sl89 (ev_t rfl) (ev_t rfl) (by omega) (flG hk1)) ?_
        refine a_v rfl (s_fieldAddrr Try.f100_0 rfl (ev_t rfl) rfl (fun _ => rfl)) ?_
        refine a_v rfl (s_loadr Try.sh3 rfl (ev_t rfl) (ref1 rfl)) ?_
        refine a_v rfl (s_call Try.okF33 ev_f (.cons (ev_t rfl) (.cons (ev_t rfl) .nil)) (hget ▸ fr_get fl (fl[q]).1 (by omega) (fun f hf => by have := hflb f hf; omega) _ : ACalls Try.prog 33 [.tree 2 (flT fl), iv (fl[q]).1] _ (One (.tuple [.tree 1 (byT ((fl[q]).2, true).1), bv ((fl[q]).2, true).2]) _))) ?_
        refine a_v rfl (s_move (ev_t rfl)) ?_
        refine a_v rfl (s_extract (ev_t rfl) rfl) ?_
        refine a_v rfl (s_extract (ev_t rfl) rfl) ?_
        refine a_v rfl (s_assign (ev_t rfl)) ?_
        refine a_v rfl (s_assign (ev_t rfl)) ?_
        refine a_nil ?_
        refine a_seq (a_draw [false, false, false, false, false, false, false, false, false, false, false, false, false, false, false, false, false, false, false, false, false, false, false, false, false, false, false, false, false, false, false, false, false, false, false, false, false, false, false, false, false] (_) Try.mixed rfl (by kernel_rfl) (View.le_refl _) ?_)
        refine d_v (fun V' hU => f_plain rfl (s_move (ev_o rfl rfl))) ?_
        refine d_v (fun V' hU => f_plain rfl (s_move (ev_o rfl rfl))) ?_
        refine d_v (fun V' hU => f_plain rfl (s_idxt Try.sl89 (ev_o rfl rfl) (ev_o rfl rfl) (by omega) (flG hk1))) ?_
        refine d_v (fun V' hU => f_plain rfl (s_fieldAddrr Try.f100_0 rfl (ev_o rfl rfl) rfl (fun _ => rfl))) ?_
        refine d_v (fun V' hU => f_plain rfl (s_loadr Try.sh3 rfl (ev_o rfl rfl) (ref1 rfl))) ?_
        refine d_v (fun V' hU => f_plain rfl (s_move (ev_o rfl rfl))) ?_
        refine d_v (fun V' hU => f_plain rfl (s_move (ev_o rfl rfl))) ?_
        refine d_v (fun V' hU => f_plain rfl (s_idxt Try.sl89 (ev_o rfl rfl) (ev_o rfl rfl) (by omega) (flG hk1))) ?_
        refine d_v (fun V' hU => f_plain rfl (s_fieldAddrr Try.f100_0 rfl (ev_o rfl rfl) rfl (fun _ => rfl))) ?_
        refine d_v (fun V' hU => f_plain rfl (s_loadr Try.sh3 rfl (ev_o rfl rfl) (ref1 rfl))) ?_
        refine d_v (fun V' hU => f_plain rfl (s_cmp (ev_o rfl rfl) (ev_o rfl rfl) rfl)) ?_
        refine d_v (fun V' hU => f_plain rfl (s_move (ev_o rfl rfl))) ?_
        refine d_v (fun V' hU => f_guard rfl (gd_b rfl (ev_o rfl rfl)) fun h11 => s_move (ev_o rfl rfl)) ?_
        refine d_v (fun V' hU => f_guard rfl (gd_b rfl (ev_o rfl rfl)) fun h11 => s_move (ev_o rfl rfl)) ?_
        refine d_v (fun V' hU => f_guard rfl (gd_b rfl (ev_o rfl rfl)) fun h11 => s_idxt Try.sl89 (ev_cond (ev_o rfl rfl) h11) (ev_cond (ev_o rfl rfl) h11) (by omega) (flG hk1)) ?_
        refine d_v (fun V' hU => f_guard rfl (gd_b rfl (ev_o rfl rfl)) fun h11 => s_fieldAddrr Try.f100_1 rfl (ev_cond (ev_o rfl rfl) h11) rfl (fun _ => rfl)) ?_
        refine d_v (fun V' hU => f_guard rfl (gd_b rfl (ev_o rfl rfl)) fun h11 => s_loadr Try.sh39 rfl (ev_cond (ev_o rfl rfl) h11) (refT _ _)) ?_
        refine d_v (fun V' hU => f_guard rfl (gd_b rfl (ev_o rfl rfl)) fun h11 => s_b2s Try.us39 Try.ui5 Try.ustr9 (ev_cond (ev_o rfl rfl) h11)) ?_
        refine d_v (fun V' hU => f_guard rfl (gd_b rfl (ev_o rfl rfl)) fun h11 => s_move (ev_o rfl rfl)) ?_
        refine d_v (fun V' hU => f_guard rfl (gd_b rfl (ev_o rfl rfl)) fun h11 => s_move (ev_o rfl rfl)) ?_
        refine d_v (fun V' hU => f_guard rfl (gd_b rfl (ev_o rfl rfl)) fun h11 => s_idxt Try.sl89 (ev_cond (ev_o rfl rfl) h11) (ev_cond (ev_o rfl rfl) h11) (by omega) (flG hk1)) ?_
        refine d_v (fun V' hU => f_guard rfl (gd_b rfl (ev_o rfl rfl)) fun h11 => s_fieldAddrr Try.f100_1 rfl (ev_cond (ev_o rfl rfl) h11) rfl (fun _ => rfl)) ?_
        refine d_v (fun V' hU => f_guard rfl (gd_b rfl (ev_o rfl rfl)) fun h11 => s_loadr Try.sh39 rfl (ev_cond (ev_o rfl rfl) h11) (refT _ _)) ?_
        refine d_v (fun V' hU => f_guard rfl (gd_b rfl (ev_o rfl rfl)) fun h11 => s_b2s Try.us39 Try.ui5 Try.ustr9 (ev_cond (ev_o rfl rfl) h11)) ?_
        refine d_v (fun V' hU => f_guard rfl (gd_b rfl (ev_o rfl rfl)) fun h11 => s_streq (ev_cond (ev_o rfl rfl) h11) (ev_cond (ev_o rfl rfl) h11) (.inr ⟨rfl, rfl⟩)) ?_
        refine d_v (fun V' hU => f_plain rfl (s_pickor (ev_o rfl rfl) (ev_o rfl rfl))) ?_
        refine d_v (fun V' hU => f_plain rfl (s_move (ev_o rfl rfl))) ?_
        refine d_v (fun V' hU => f_guard rfl (gd_b rfl (ev_o rfl rfl)) fun h26 => s_move (ev_o rfl rfl)) ?_
        refine d_v (fun V' hU => f_guard rfl (gd_b rfl (ev_o rfl rfl)) fun h26 => s_not (ev_cond (ev_o rfl rfl) h26)) ?_
        refine d_v (fun V' hU => f_plain rfl (s_pickor (ev_o rfl rfl) (ev_o rfl rfl))) ?_
        refine d_v (fun V' hU => f_plain rfl (s_move (ev_o rfl rfl))) ?_
        refine d_v (fun V' hU => f_guard rfl (gd_b rfl (ev_o rfl rfl)) fun h30 => s_move (ev_o rfl rfl)) ?_
        refine d_v (fun V' hU => f_guard rfl (gd_b rfl (ev_o rfl rfl)) fun h30 => s_b2s Try.us39 Try.ui5 Try.ustr9 (ev_cond (ev_o rfl rfl) h30)) ?_
        refine d_v (fun V' hU => f_guard rfl (gd_b rfl (ev_o rfl rfl)) fun h30 => s_move (ev_o rfl rfl)) ?_
        refine d_v (fun V' hU => f_guard rfl (gd_b rfl (ev_o rfl rfl)) fun h30 => s_move (ev_o rfl rfl)) ?_
        refine d_v (fun V' hU => f_guard rfl (gd_b rfl (ev_o rfl rfl)) fun h30 => s_idxt Try.sl89 (ev_cond (ev_o rfl rfl) h30) (ev_cond (ev_o rfl rfl) h30) (by omega) (flG hk1)) ?_
        refine d_v (fun V' hU => f_guard rfl (gd_b rfl (ev_o rfl rfl)) fun h30 => s_fieldAddrr Try.f100_1 rfl (ev_cond (ev_o rfl rfl) h30) rfl (fun _ => rfl)) ?_
        refine d_v (fun V' hU => f_guard rfl (gd_b rfl (ev_o rfl rfl)) fun h30 => s_loadr Try.sh39 rfl (ev_cond (ev_o rfl rfl) h30) (refT _ _)) ?_
        refine d_v (fun V' hU => f_guard rfl (gd_b rfl (ev_o rfl rfl)) fun h30 => s_b2s Try.us39 Try.ui5 Try.ustr9 (ev_cond (ev_o rfl rfl) h30)) ?_
        refine d_v (fun V' hU => f_guard rfl (gd_b rfl (ev_o rfl rfl)) fun h30 => s_streq (ev_cond (ev_o rfl rfl) h30) (ev_cond (ev_o rfl rfl) h30) (.inr ⟨rfl, rfl⟩)) ?_
        refine d_v (fun V' hU => f_plain rfl (s_pickor (ev_o rfl rfl) (ev_o rfl rfl))) ?_
        refine d_nil ?_
        refine a_cond (ev_t rfl) (fun hc => ?_) (fun hc => a_skip ?_)
        · exfalso; simp [ba_nself] at hc
        refine a_region ?_
        refine a_v rfl (s_add (ev_t rfl) ev_c (by omega) (by omega)) ?_
        refine a_v rfl (s_move (ev_t rfl)) ?_
        refine a_nil ?_
        exact ⟨fl.length - (q + 1), by omega, q + 1, _, rfl, by omega, rfl, ⟨rfl, rfl, rfl, rfl, rfl, rfl, rfl, rfl, rfl, rfl, rfl, rfl, trivial⟩, rfl⟩
      repeat first | refine thenA_x ?_ | refine blockA_hit ?_ | refine blockA_x (by decide) ?_
      exact ⟨_, rfl, ⟨rfl, rfl, rfl, rfl, rfl, rfl, rfl, rfl, rfl, rfl, trivial⟩, rfl⟩
    rintro st V' ⟨lt, rfl, hs, rfl⟩
    refine a_forget hs ?_
    refine a_seq (a_region ?_)
    refine a_v rfl (s_move (ev_t rfl)) ?_
    refine a_v rfl (s_call Try.okF34 ev_f (.cons (ev_t rfl) .nil) (fr_write _ (by omega) _)) ?_
    refine a_v rfl (s_move (ev_t rfl)) ?_
    refine a_v rfl (s_extract (ev_t rfl) rfl) ?_
    refine a_v rfl (s_extract (ev_t rfl) rfl) ?_
    refine a_v rfl (s_assign (ev_t rfl)) ?_
    refine a_v rfl (s_assign (ev_t rfl)) ?_
    refine a_nil ?_
    refine a_seq (a_seq (a_drawq [0, 1, 2, 3, 4, 5, 6, 7, 9, 8, 10, 11, 12, 13] [0, 1, 2, 3, 4, 5, 6, 7, 9, 8, 10, 11, 12, 13] [false, false, false, false, false, false, false, false, false, true, true, false, false, false] (_) (by kernel_rfl) Try.mixed rfl (by kernel_rfl) (View.le_refl _) ?_))
    refine d_v (fun V' hU => f_plain rfl (s_move (ev_o rfl rfl))) ?_
    refine d_v (fun V' hU => f_plain rfl (s_cmp (ev_o rfl rfl) ev_c rfl)) ?_
    refine d_v (fun V' hU => f_plain rfl (s_move (ev_o rfl rfl))) ?_
    refine d_v (fun V' hU => f_known (gk rfl rfl (ev_o rfl rfl) rfl) (s_move (ev_o rfl rfl))) ?_
    refine d_v (fun V' hU => f_known (gk rfl rfl (ev_o rfl rfl) rfl) (s_b2s Try.us39 Try.ui5 Try.ustr9 (ev_o rfl rfl))) ?_
    refine d_v (fun V' hU => f_known (gk rfl rfl (ev_o rfl rfl) rfl) (s_move (ev_o rfl rfl))) ?_
    refine d_v (fun V' hU => f_known (gk rfl rfl (ev_o rfl rfl) rfl) (s_leny Try.us39 (ev_o rfl rfl))) ?_
    refine d_v (fun V' hU => f_known (gk rfl rfl (ev_o rfl rfl) rfl) (s_convw ⟨_, Try.ui3⟩ Try.ui45 (ev_o rfl rfl) (wrapu64 (by omega) (by omega)))) ?_
    refine d_v (fun V' hU => f_known (gk rfl rfl (ev_o rfl rfl) rfl) (s_move (ev_o rfl rfl))) ?_
    refine d_vpg (gk rfl rfl (ev_o rfl rfl) rfl) (s_call Try.okF9 ev_f (.cons (ev_o rfl rfl) .nil) (fr_form (by omega) _)) fun xv Vv hx => ?_
    have A159 := hx; refine ⟨accLe A159, ?_⟩
    refine d_vpg (gk rfl rfl (ev_o rfl rfl) rfl) (OpS.freeze (s_acc Try.sl39 Try.src39 Try.z5 rfl Try.by5 (ev_o rfl rfl) A159 (src_by (ev_o rfl rfl)) (byT_one _) (by omega) (by omega)) (els := byT (form (recF fl).length ++ recF fl)) (by rw [← byT_els, byT_app]) (by simp [byT]) (byT_good _)) fun xv Vv hx => ?_
    obtain ⟨rfl, hVV⟩ := hx; have hVV := hVV.symm; subst hVV; refine ⟨View.le_refl _, ?_⟩
    refine d_v (fun V' hU => f_known (gk rfl rfl (ev_o rfl rfl) rfl) (s_b2s Try.us39 Try.ui5 Try.ustr9 (ev_o rfl rfl))) ?_
    refine d_v (fun V' hU => f_known (gk rfl rfl (ev_o rfl rfl) rfl) (s_streq (ev_o rfl rfl) (ev_o rfl rfl) (.inr ⟨rfl, rfl⟩))) ?_
    refine d_v (fun V' hU => f_plain rfl (s_pick (x := .v (.bool _)) (ev_o rfl rfl) (fun hx => (by exact absurd hx (by first | (simp; done) | (simp [ba_nself]; done) | (simp [*]; done)))) (fun _ => (ev_o rfl rfl)))) ?_
    refine d_nil ?_
    refine a_cond (ev_t rfl) (fun hc => ?_) (fun hc => a_skip ?_)
    · exfalso; simp [ba_nself] at hc
    have hol : (form (recF fl).length ++ recF fl).length ≤ 3000 := by simp; omega
    refine a_region ?_
    refine a_v rfl (s_move (ev_t rfl)) ?_
    refine a_v rfl (s_move (ev_t rfl)) ?_
    refine a_vp rfl (s_acc Try.sl39 Try.src39 Try.z5 rfl Try.by5 (ev_t rfl) A10 (src_by (ev_t rfl)) (byT_one _) (by omega) (by omega)) fun xv Vv hx => ?_
    have A167 := hx
    refine a_v rfl (s_move (ev_t rfl)) ?_
    refine a_v rfl (s_move (ev_t rfl)) ?_
    refine a_v rfl (s_litx Try.sl88 Try.z39 rfl rfl (.cons (ev_t rfl) .nil) rfl rfl rfl) ?_
    refine a_vp rfl (s_acc2 Try.sl88 Try.src88 Try.z39 rfl Try.by39 (ev_t rfl) A167 A11 (src_one (ev_t rfl) rfl rfl) rfl (by omega) (by omega)) fun xv Vv hx => ?_
    obtain ⟨V₃, B10, B11⟩ := hx
    refine a_v rfl (s_assign (ev_t rfl)) ?_
    refine a_v rfl (s_assign (ev_t rfl)) ?_
    refine a_nil ?_
    refine a_region ?_
    refine a_v rfl (s_move (ev_t rfl)) ?_
    refine a_v rfl (s_add (ev_t rfl) ev_c (by omega) (by omega)) ?_
    refine a_v rfl (s_assign (ev_t rfl)) ?_
    refine a_nil ?_
    refine ⟨8 - (i + 1), by omega, i + 1, _, _, _, V₃, V₂, rfl, by omega, rfl, ⟨rfl, rfl, rfl, rfl, rfl, rfl, rfl, trivial⟩, accCast B10 ?_ ?_, accCast B11 rfl ?_, hV⟩
    · rw [frs_take hiB, hBi, frameOf_len]; simp
    · rw [← byT_app]; congr 1
      unfold frs; rw [List.take_succ_eq_append_getElem hiB, List.flatMap_append, hBi]; simp [frameOf]
    · unfold bysT; rw [List.take_succ_eq_append_getElem hiB, List.map_append, hBi]; rfl
  repeat first | refine thenA_x ?_ | refine blockA_hit ?_ | refine blockA_x (by decide) ?_
  have hie : i = Bs.length := by
    rcases Nat.lt_or_ge i 8 with h | h
    · simp [recsT_len] at hc; omega
    · omega
  subst hie
  rw [List.take_length] at A10 A11
  refine a_acc_tree (t := 10) A10 (byT_els _) (byT_len _) (byT_good _) rfl ?_
  refine a_acc_tree (t := 11) A11 (bysT_els _) (bysT_len _) (bysT_good _) rfl ?_
  refine a_weaken hV ?_
  refine a_seq (a_region ?_)
  refine a_v rfl (s_assign ev_c) ?_
  refine a_nil ?_
  refine a_seq (a_seq (a_region ?_))
  refine a_v rfl (s_move (ev_t rfl)) ?_
  refine a_v rfl (s_lent Try.us40 (ev_t rfl)) ?_
  refine a_v rfl (s_move ev_c) ?_
  refine a_nil ?_
  have hfn := formsF_len hx
  refine a_cut1 (fun st V' => ∃ (lt : List (Nat × AVal)) (b : AVal) (V₁ : View), st = ⟨lt, 251⟩ ∧ SubT [(1, .tree 1 (byT pieces)), (2, .tree 1 (uvs ns)), (3, bv wrong), (10, .tree 1 (byT (frs Bs))), (11, .tree 1 (bysT Bs)), (24, b)] lt ∧ V.le V₁ ∧ Acc V' b 1 (formsF ns).length (byT (formsF ns)) V₁) ?_ ?_
  · refine a_block ?_
    refine a_loop (fun n st V' => ∃ (q : Nat) (lt : List (Nat × AVal)) (b : AVal) (c : List UInt8) (V₁ : View), ns.length - q = n ∧ q ≤ ns.length ∧ c.length ≤ 9 * q ∧ st = ⟨lt, 251⟩ ∧ SubT [(1, .tree 1 (byT pieces)), (2, .tree 1 (uvs ns)), (3, bv wrong), (10, .tree 1 (byT (frs Bs))), (11, .tree 1 (bysT Bs)), (24, b), (172, .tree 1 (uvs ns)), (173, iv (uvs ns).length), (174, iv q)] lt ∧ V.le V₁ ∧ Acc V' b 1 c.length (byT c) V₁ ∧ formsF ns = c ++ formsF (ns.drop q)) ?_ ns.length _ _
      ⟨0, _, _, [], V, rfl, by omega, by simp, rfl, ⟨rfl, rfl, rfl, rfl, rfl, rfl, rfl, rfl, rfl, trivial⟩, View.le_refl _, accNil, rfl⟩
    rintro n₂ st W ⟨q, lt, b, c, V₁, rfl, hq, hcl, rfl, hs, hV1, A24, hg⟩
    refine a_forget hs ?_
    refine a_seq (a_region ?_)
    refine a_v rfl (s_cmp (ev_t rfl) (ev_t rfl) rfl) ?_
    refine a_nil ?_
    refine a_seq (a_cond (ev_t rfl) (fun hc => a_skip ?_) (fun hc => a_exit ?_))
    · have hi' : q < ns.length := by simp [uvs_len] at hc; omega
      have hxq := hx _ (List.getElem_mem hi')
      have hfq := form_len hxq
      have hr : formsF (ns.drop q) = form ns[q] ++ formsF (ns.drop (q + 1)) := formsF_drop hi'
      refine a_seq (a_block ?_)
      refine a_seq (a_region ?_)
      refine a_v rfl (s_idxt Try.sl40 (ev_t rfl) (ev_t rfl) (by omega) (uvG hi')) ?_
      refine a_v rfl (s_loadr Try.sh45 rfl (ev_t rfl) (ref1 rfl)) ?_
      refine a_v rfl (s_assign (ev_t rfl)) ?_
      refine a_nil ?_
      refine a_seq (a_region ?_)
      refine a_v rfl (s_move (ev_t rfl)) ?_
      refine a_v rfl (s_move (ev_t rfl)) ?_
      refine a_v rfl (s_call Try.okF9 ev_f (.cons (ev_t rfl) .nil) (fr_formT (by omega) _)) ?_
      refine a_vp rfl (s_acc Try.sl39 Try.src39 Try.z5 rfl Try.by5 (ev_t rfl) A24 (src_by (ev_t rfl)) (byT_one _) (by omega) (by omega)) fun xv Vv hx => ?_
      have A181 := hx
      refine a_v rfl (s_assign (ev_t rfl)) ?_
      refine a_nil ?_
      refine a_seq (a_region ?_)
      refine a_v rfl (s_move (ev_t rfl)) ?_
      refine a_v rfl (s_call Try.okF35 ev_f (.cons (ev_t rfl) .nil) (fr_size (by omega) _)) ?_
      refine a_v rfl (s_move (ev_t rfl)) ?_
      refine a_v rfl (s_call Try.okF9 ev_f (.cons (ev_t rfl) .nil) (fr_formT (by omega) _)) ?_
      refine a_v rfl (s_leny Try.us39 (ev_t rfl)) ?_
      refine a_v rfl (s_cmp (ev_t rfl) (ev_t rfl) rfl) ?_
      refine a_v rfl (s_move (ev_t rfl)) ?_
      refine a_f rfl (f_guard rfl (gd_b rfl (ev_t rfl)) fun h6 => s_move (ev_t rfl)) ?_
      refine a_f rfl (f_guard rfl (gd_b rfl (ev_t rfl)) fun h6 => s_conv ⟨_, Try.ui45⟩ Try.ui2 (ev_cond (ev_t rfl) h6)) ?_
      refine a_f rfl (f_guard rfl (gd_b rfl (ev_t rfl)) fun h6 => s_call Try.okF37 ev_f (.cons (ev_cond (ev_t rfl) h6) .nil) (fr_fold (wrap_i64_lt _).1 (wrap_i64_lt _).2 _)) ?_
      refine a_f rfl (f_guard rfl (gd_b rfl (ev_t rfl)) fun h6 => s_call Try.okF36 ev_f (.cons (ev_cond (ev_t rfl) h6) .nil) (fr_unfold2 (wrap_i64_lt _).1 (wrap_i64_lt _).2 _)) ?_
      refine a_f rfl (f_guard rfl (gd_b rfl (ev_t rfl)) fun h6 => s_move (ev_t rfl)) ?_
      refine a_f rfl (f_guard rfl (gd_b rfl (ev_t rfl)) fun h6 => s_conv ⟨_, Try.ui45⟩ Try.ui2 (ev_cond (ev_t rfl) h6)) ?_
      refine a_f rfl (f_guard rfl (gd_b rfl (ev_t rfl)) fun h6 => s_cmp (ev_cond (ev_t rfl) h6) (ev_cond (ev_t rfl) h6) rfl) ?_
      refine a_v rfl (s_pickor (ev_t rfl) (ev_t rfl)) ?_
      refine a_nil ?_
      refine a_cond (ev_t rfl) (fun hc => ?_) (fun hc => a_skip ?_)
      · exfalso; simp at hc
      refine a_region ?_
      refine a_v rfl (s_add (ev_t rfl) ev_c (by omega) (by omega)) ?_
      refine a_v rfl (s_move (ev_t rfl)) ?_
      refine a_nil ?_
      exact ⟨ns.length - (q + 1), by omega, q + 1, _, _, c ++ form ns[q], _, rfl, by omega, by simp; omega, rfl, ⟨rfl, rfl, rfl, rfl, rfl, rfl, rfl, rfl, rfl, trivial⟩, hV1, accCast A181 (by simp) (by simp [byT]), by rw [hg, hr]; simp⟩
    repeat first | refine thenA_x ?_ | refine blockA_hit ?_ | refine blockA_x (by decide) ?_
    have hqe : q = ns.length := by simp [uvs_len] at hc; omega
    subst hqe
    have hg' : formsF ns = c := by rw [hg, List.drop_length]; simp [formsF]
    exact ⟨_, b, V₁, rfl, ⟨rfl, rfl, rfl, rfl, rfl, rfl, trivial⟩, hV1, by rw [hg']; exact A24⟩
  rintro st V' ⟨lt, b, V₁, rfl, hs, hV1, A24⟩
  refine a_forget hs ?_
  refine a_acc_tree (t := 24) A24 (byT_els _) (byT_len _) (byT_good _) rfl ?_
  refine a_weaken hV1 ?_
  refine a_seq (a_region ?_)
  refine a_v rfl (s_move (ev_t rfl)) ?_
  refine a_v rfl (s_call Try.okF38 ev_f (.cons (ev_t rfl) .nil) (fr_split (by omega) hx _)) ?_
  refine a_v rfl (s_move (ev_t rfl)) ?_
  refine a_v rfl (s_extract (ev_t rfl) rfl) ?_
  refine a_v rfl (s_extract (ev_t rfl) rfl) ?_
  refine a_v rfl (s_assign (ev_t rfl)) ?_
  refine a_v rfl (s_assign (ev_t rfl)) ?_
  refine a_nil ?_
  refine a_seq (a_seq (a_draw [false, false, false, false, false, false, false, false, false, false, false, false, false, false, false, false, false] (_) Try.mixed rfl (by kernel_rfl) (View.le_refl _) ?_))
  refine d_v (fun V' hU => f_plain rfl (s_move (ev_o rfl rfl))) ?_
  refine d_v (fun V' hU => f_plain rfl (s_cmp (ev_o rfl rfl) ev_c rfl)) ?_
  refine d_v (fun V' hU => f_plain rfl (s_move (ev_o rfl rfl))) ?_
  refine d_v (fun V' hU => f_guard rfl (gd_b rfl (ev_o rfl rfl)) fun h2 => s_move (ev_o rfl rfl)) ?_
  refine d_v (fun V' hU => f_guard rfl (gd_b rfl (ev_o rfl rfl)) fun h2 => s_lent Try.us40 (ev_cond (ev_o rfl rfl) h2)) ?_
  refine d_v (fun V' hU => f_guard rfl (gd_b rfl (ev_o rfl rfl)) fun h2 => s_move (ev_o rfl rfl)) ?_
  refine d_v (fun V' hU => f_guard rfl (gd_b rfl (ev_o rfl rfl)) fun h2 => s_lent Try.us40 (ev_cond (ev_o rfl rfl) h2)) ?_
  refine d_v (fun V' hU => f_guard rfl (gd_b rfl (ev_o rfl rfl)) fun h2 => s_cmp (ev_cond (ev_o rfl rfl) h2) (ev_cond (ev_o rfl rfl) h2) rfl) ?_
  refine d_v (fun V' hU => f_plain rfl (s_pickor (ev_o rfl rfl) (ev_o rfl rfl))) ?_
  refine d_v (fun V' hU => f_plain rfl (s_move (ev_o rfl rfl))) ?_
  refine d_v (fun V' hU => f_guard rfl (gd_b rfl (ev_o rfl rfl)) fun h9 => s_move (ev_o rfl rfl)) ?_
  refine d_v (fun V' hU => f_guard rfl (gd_b rfl (ev_o rfl rfl)) fun h9 => s_call Try.okF39 ev_f (.cons (ev_cond (ev_o rfl rfl) h9) .nil) (fr_all (by omega) hx _)) ?_
  refine d_v (fun V' hU => f_guard rfl (gd_b rfl (ev_o rfl rfl)) fun h9 => s_b2s Try.us39 Try.ui5 Try.ustr9 (ev_cond (ev_o rfl rfl) h9)) ?_
  refine d_v (fun V' hU => f_guard rfl (gd_b rfl (ev_o rfl rfl)) fun h9 => s_move (ev_o rfl rfl)) ?_
  refine d_v (fun V' hU => f_guard rfl (gd_b rfl (ev_o rfl rfl)) fun h9 => s_b2s Try.us39 Try.ui5 Try.ustr9 (ev_cond (ev_o rfl rfl) h9)) ?_
  refine d_v (fun V' hU => f_guard rfl (gd_b rfl (ev_o rfl rfl)) fun h9 => s_streq (ev_cond (ev_o rfl rfl) h9) (ev_cond (ev_o rfl rfl) h9) (.inr ⟨rfl, rfl⟩)) ?_
  refine d_v (fun V' hU => f_plain rfl (s_pickor (ev_o rfl rfl) (ev_o rfl rfl))) ?_
  refine d_nil ?_
  refine a_cond (ev_t rfl) (fun hc => ?_) (fun hc => a_skip ?_)
  · exfalso; simp [ba_nself] at hc
  refine a_seq (a_seq (a_region ?_))
  refine a_v rfl (s_move (ev_t rfl)) ?_
  refine a_v rfl (s_lent Try.us40 (ev_t rfl)) ?_
  refine a_v rfl (s_move ev_c) ?_
  refine a_nil ?_
  refine a_cut1 (fun st V' => ∃ (lt : List (Nat × AVal)), st = ⟨lt, 251⟩ ∧ SubT [(1, .tree 1 (byT pieces)), (3, bv wrong), (10, .tree 1 (byT (frs Bs))), (11, .tree 1 (bysT Bs))] lt ∧ V = V') ?_ ?_
  · refine a_block ?_
    refine a_loop (fun n st V' => ∃ (q : Nat) (lt : List (Nat × AVal)), ns.length - q = n ∧ q ≤ ns.length ∧ st = ⟨lt, 251⟩ ∧ SubT [(1, .tree 1 (byT pieces)), (2, .tree 1 (uvs ns)), (3, bv wrong), (10, .tree 1 (byT (frs Bs))), (11, .tree 1 (bysT Bs)), (27, .tree 1 (uvs ns)), (221, iv (uvs ns).length), (222, iv q)] lt ∧ V = V') ?_ ns.length _ _
      ⟨0, _, rfl, by omega, rfl, ⟨rfl, rfl, rfl, rfl, rfl, rfl, rfl, rfl, trivial⟩, rfl⟩
    rintro n₂ st V' ⟨q, lt, rfl, hq, rfl, hs, rfl⟩
    refine a_forget hs ?_
    refine a_seq (a_region ?_)
    refine a_v rfl (s_cmp (ev_t rfl) (ev_t rfl) rfl) ?_
    refine a_nil ?_
    refine a_seq (a_cond (ev_t rfl) (fun hc => a_skip ?_) (fun hc => a_exit ?_))
    · have hk1 : q < ns.length := by simp [uvs_len] at hc; omega
      refine a_seq (a_block ?_)
      refine a_seq (a_region ?_)
      refine a_v rfl (s_move (ev_t rfl)) ?_
      refine a_v rfl (s_assign (ev_t rfl)) ?_
      refine a_nil ?_
      refine a_seq (a_draw [false, false, false, false, false, false, false, false, false] (_) Try.mixed rfl (by kernel_rfl) (View.le_refl _) ?_)
      refine d_v (fun V' hU => f_plain rfl (s_move (ev_o rfl rfl))) ?_
      refine d_v (fun V' hU => f_plain rfl (s_move (ev_o rfl rfl))) ?_
      refine d_v (fun V' hU => f_plain rfl (s_idxt Try.sl40 (ev_o rfl rfl) (ev_o rfl rfl) (by omega) (uvG hk1))) ?_
      refine d_v (fun V' hU => f_plain rfl (s_loadr Try.sh45 rfl (ev_o rfl rfl) (ref1 rfl))) ?_
      refine d_v (fun V' hU => f_plain rfl (s_move (ev_o rfl rfl))) ?_
      refine d_v (fun V' hU => f_plain rfl (s_move (ev_o rfl rfl))) ?_
      refine d_v (fun V' hU => f_plain rfl (s_idxt Try.sl40 (ev_o rfl rfl) (ev_o rfl rfl) (by omega) (uvG hk1))) ?_
      refine d_v (fun V' hU => f_plain rfl (s_loadr Try.sh45 rfl (ev_o rfl rfl) (ref1 rfl))) ?_
      refine d_v (fun V' hU => f_plain rfl (s_cmp (ev_o rfl rfl) (ev_o rfl rfl) rfl)) ?_
      refine d_nil ?_
      refine a_cond (ev_t rfl) (fun hc => ?_) (fun hc => a_skip ?_)
      · exfalso; simp at hc
      refine a_region ?_
      refine a_v rfl (s_add (ev_t rfl) ev_c (by omega) (by omega)) ?_
      refine a_v rfl (s_move (ev_t rfl)) ?_
      refine a_nil ?_
      exact ⟨ns.length - (q + 1), by omega, q + 1, _, rfl, by omega, rfl, ⟨rfl, rfl, rfl, rfl, rfl, rfl, rfl, rfl, trivial⟩, rfl⟩
    repeat first | refine thenA_x ?_ | refine blockA_hit ?_ | refine blockA_x (by decide) ?_
    exact ⟨_, rfl, ⟨rfl, rfl, rfl, rfl, trivial⟩, rfl⟩
  rintro st V' ⟨lt, rfl, hs, rfl⟩
  refine a_forget hs ?_
  refine a_seq (a_region ?_)
  refine a_v rfl (s_lit (els := byT (behT false)) Try.sl39 Try.z5 rfl rfl (.cons ev_c (.cons ev_c (.cons ev_c (.cons ev_c .nil)))) rfl rfl rfl) ?_
  refine a_v rfl (s_assign (ev_t rfl)) ?_
  refine a_nil ?_
  refine a_seq (a_seq (a_region ?_))
  refine a_v rfl (s_move (ev_t rfl)) ?_
  refine a_nil ?_
  refine a_cut1 (fun st V' => ∃ (lt : List (Nat × AVal)), st = ⟨lt, 251⟩ ∧ SubT [(1, .tree 1 (byT pieces)), (3, bv wrong), (10, .tree 1 (byT (frs Bs))), (11, .tree 1 (bysT Bs)), (30, .tree 1 (byT (behT wrong)))] lt ∧ V = V') ?_ ?_
  · refine a_cond (ev_t rfl) (fun hc => ?_) (fun hc => a_skip ?_)
    · subst hc
      refine a_region ?_
      refine a_v rfl (s_lit (els := byT (behT true)) Try.sl39 Try.z5 rfl rfl (.cons ev_c (.cons ev_c .nil)) rfl rfl rfl) ?_
      refine a_v rfl (s_assign (ev_t rfl)) ?_
      refine a_nil ?_
      exact ⟨_, rfl, ⟨rfl, rfl, rfl, rfl, rfl, trivial⟩, rfl⟩
    · subst hc
      exact ⟨_, rfl, ⟨rfl, rfl, rfl, rfl, rfl, trivial⟩, rfl⟩
  rintro st V' ⟨lt, rfl, hs, rfl⟩
  refine a_forget hs ?_
  have hbh : (behT wrong).length ≤ 4 := by cases wrong <;> simp [behT]
  have hB' : ∀ B ∈ Bs, B.length ≤ 16384 := fun B hB => by have := hbs B hB; omega
  refine a_seq (a_region ?_)
  refine a_v rfl (s_move (ev_t rfl)) ?_
  refine a_v rfl (s_leny Try.us39 (ev_t rfl)) ?_
  refine a_vp rfl (s_lito (cs := []) Try.sl39 Try.z5 rfl rfl .nil rfl) fun xv Vv hx => ?_
  have A240 := accNew (sz := 1) hx rfl rfl
  refine a_v rfl (s_move (ev_t rfl)) ?_
  refine a_vp rfl (s_acc Try.sl39 Try.src39 Try.z5 rfl Try.by5 (ev_t rfl) A240 (src_by (ev_t rfl)) (byT_one _) (by omega) (by omega)) fun xv Vv hx => ?_
  have A242 := hx
  refine a_v rfl (s_move (ev_t rfl)) ?_
  refine a_vp rfl (OpS.freeze (s_acc Try.sl39 Try.src39 Try.z5 rfl Try.by5 (ev_t rfl) A242 (src_by (ev_t rfl)) (byT_one _) (by omega) (by omega)) (els := byT (frs Bs ++ behT wrong)) (by rw [← byT_els, byT_app]; rfl) (by simp [byT]) (byT_good _)) fun xv Vv hx => ?_
  obtain ⟨rfl, hVV⟩ := hx; have hVV := hVV.symm; subst hVV
  refine a_v rfl (s_move (ev_t rfl)) ?_
  refine a_v rfl (s_leny Try.us39 (ev_t rfl)) ?_
  refine a_v rfl (s_move (ev_t rfl)) ?_
  refine a_v rfl (s_move (ev_t rfl)) ?_
  refine a_v rfl (s_move (ev_t rfl)) ?_
  refine a_v rfl (s_call Try.okF40 ev_f (.cons (ev_t rfl) (.cons (ev_t rfl) (.cons (ev_t rfl) (.cons (ev_t rfl) (.cons (ev_t rfl) .nil))))) (fr_fed hB' (by omega) (by simp; omega) hp _)) ?_
  refine a_v rfl (s_assign (ev_t rfl)) ?_
  refine a_v rfl (s_assign (ev_t rfl)) ?_
  refine a_nil ?_
  refine a_ret ?_
  exact ⟨[_, _], V, ⟨_, _, rfl, ev_t rfl, _, _, rfl, ev_t rfl, rfl⟩, View.le_refl _, rfl, rfl⟩
#print axioms fr_framed
end Go.Proofs
