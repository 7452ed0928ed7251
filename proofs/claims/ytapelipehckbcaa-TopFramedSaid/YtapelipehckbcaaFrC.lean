/- Frames and records: the walk through fields and frames that are written. -/
import Derived.Test.YtapelipehckbcaaFrB
set_option linter.unusedVariables false
set_option linter.unusedSimpArgs false
namespace Go.AV
theorem digs_len1 {n : Nat} (h : 0 < n) : 1 ≤ (digs n).length := by rw [digs_pos h]; simp
theorem digs_nil {n : Nat} (h : (digs n).length = 0) : n = 0 := by
  rcases Nat.eq_zero_or_pos n with h0 | h0
  · exact h0
  · have := digs_len1 h0; omega
theorem form_one {n : Nat} (h : (form n).length = 1) : n ≤ 246 := by
  rcases Nat.lt_or_ge 246 n with h' | h'
  · rw [form_big h'] at h; have := digs_len1 (n := n) (by omega); simp at h; rw [h] at this; simp at this
  · exact h'
theorem wrDig {j off : Nat} {r : List UInt8} {d : UInt8} (hj : 0 < j) (ho : off = j - 1) : wrc (byT (List.replicate j 0 ++ r)) off [.v (.int .u8 (d.toNat : Int))] = byT (List.replicate (j - 1) 0 ++ (d :: r)) := by
  obtain ⟨k, rfl⟩ : ∃ k, j = k + 1 := ⟨j - 1, by omega⟩
  simp only [Nat.add_sub_cancel] at ho ⊢
  subst ho
  have h1 : (byT (List.replicate (off + 1) 0 ++ r)).take off = byT (List.replicate off 0) := by
    rw [byT_app, List.take_append_of_le_length (by simp [byT])]
    simp [byT, List.map_replicate]
  have h2 : (byT (List.replicate (off + 1) 0 ++ r)).drop (off + 1) = byT r := by
    rw [byT_app]
    exact List.drop_left' (by simp [byT])
  unfold wrc
  simp only [List.length_cons, List.length_nil, Nat.zero_add]
  rw [h1, h2, byT_app]; rfl
theorem src_rowby {P : Program} {st : ASt} {V : View} {y : Operand} {b n cap : Nat} {bs : List UInt8} {N : Option Nat} (hy : Ev st y (.v (.slice (some ⟨b, 0, none⟩) n cap))) (hb : V b = some (.rown (byT bs) N)) (hn : n ≤ bs.length) :
    Src P st V y 1 n (byT (bs.take n)) := by
  have := src_row (P := P) (sz := 1) hy hb (by rw [byT_len]; omega)
  simpa [byT] using this
/-- Fields. -/
abbrev Fld := Int × List UInt8
def flT (l : List Fld) : List AVal := l.map fun f => .agg [iv f.1, .tree 1 (byT f.2)]
theorem flT_len (l : List Fld) : (flT l).length = l.length := by simp [flT]
theorem flG {l : List Fld} {i : Nat} (h : i < l.length) : (flT l)[((i : Nat) : Int).toNat]? = some (.agg [iv (l[i]).1, .tree 1 (byT (l[i]).2)]) := by simp [flT, h]
def rightGo : Int → Int → List Fld → Bool
  | _, _, [] => true
  | last, left, f :: r => if f.1 ≤ last ∨ f.1 > 200 ∨ (f.2.length : Int) > left then false else rightGo f.1 (left - f.2.length) r
def rightF (l : List Fld) : Bool := rightGo 0 16384 l && decide (l.length ≤ 64)
def getF (l : List Fld) (tag : Int) : List UInt8 × Bool :=
  match l with
  | [] => ([], false)
  | f :: r => if f.1 = tag then (f.2, true) else getF r tag
def recF (l : List Fld) : List UInt8 := l.flatMap fun f => UInt8.ofNat f.1.toNat :: (form f.2.length ++ f.2)
end Go.AV
namespace Go.Proofs
open Go.AV
theorem fr_append {x n : Nat} {b : AVal} {cs : List AVal} {V V₀ : View} (hx : x < 18446744073709551616) (hn : n ≤ 1099511627776) (A0 : Acc V b 1 n cs V₀) :
    ACalls Try.prog 54 [b, uv x] V fun r V' => Acc V' r 1 (n + (form x).length) (cs ++ byT (form x)) V₀ := by
  have hl := form_len hx
  refine a_fn (fn := Try.f54) Try.func54 rfl ?_ rfl
  refine a_seq (a_region ?_)
  refine a_v rfl (s_assign ev_c) ?_
  refine a_nil ?_
  refine a_seq (a_region ?_)
  refine a_v rfl (s_move (ev_t rfl)) ?_
  refine a_v rfl (s_call Try.okF35 ev_f (.cons (ev_t rfl) .nil) (fr_size (by omega) _)) ?_
  refine a_v rfl (s_assign (ev_t rfl)) ?_
  refine a_nil ?_
  refine a_seq (a_seq (a_region ?_))
  refine a_v rfl (s_move (ev_t rfl)) ?_
  refine a_v rfl (s_cmp (ev_t rfl) ev_c rfl) ?_
  refine a_nil ?_
  refine a_cond (ev_t rfl) (fun hc => ?_) (fun hc => a_skip ?_)
  · have hs : x ≤ 246 := form_one (by simp at hc; omega)
    refine a_seq (a_region ?_)
    refine a_v rfl (s_move (ev_t rfl)) ?_
    refine a_v rfl (s_move (ev_t rfl)) ?_
    refine a_v rfl (s_convw ⟨_, Try.ui45⟩ Try.ui5 (ev_t rfl) (u8w _)) ?_
    refine a_v rfl (s_litx Try.sl39 Try.z5 rfl rfl (.cons (ev_t rfl) .nil) rfl rfl rfl) ?_
    refine a_vp rfl (s_acc Try.sl39 Try.src39 Try.z5 rfl Try.by5 (ev_t rfl) A0 (src_b1 (ev_t rfl)) rfl (by omega) (by omega)) fun xv Vv hx => ?_
    have A16 := hx
    refine a_v rfl (s_assign (ev_t rfl)) ?_
    refine a_nil ?_
    refine a_ret ?_
    refine ⟨[_], _, ⟨_, _, rfl, ev_t rfl, rfl⟩, View.le_refl _, ?_⟩
    rw [form_small hs]; simpa [byT, oneOf, AVal.cells] using A16
  have hs : 246 < x := by
    rcases Nat.lt_or_ge 246 x with h | h
    · exact h
    · exfalso; simp [form_small h] at hc
  have hL1 := digs_len1 (n := x) (by omega)
  have hL8 := digs_len8 hx
  have hfl : (form x).length = (digs x).length + 1 := by rw [form_big hs]; rfl
  have e0 : ((form x).length : Int) - 2 = ((digs x).length : Int) - 1 := by omega
  refine a_seq (a_region ?_)
  refine a_vp rfl (s_alloc Try.z157) fun xv Vv hx => ?_
  obtain ⟨b6, nb6, rfl, rfl⟩ := hx
  have vb6 : V b6 = none := by simpa [View.set, ] using nb6
  refine a_nil ?_
  refine a_seq (a_seq (a_region ?_))
  refine a_v rfl (s_move (ev_t rfl)) ?_
  refine a_v rfl (s_sub (ev_t rfl) ev_c (by omega) (by omega)) ?_
  refine a_v rfl (s_assign (ev_t rfl)) ?_
  refine a_nil ?_
  have A1 := Acc.set A0 (.row (byT (List.replicate (digs x).length 0 ++ List.replicate (8 - (digs x).length) 0))) nb6
  have e8 : (Value.agg #[.int .u8 0, .int .u8 0, .int .u8 0, .int .u8 0, .int .u8 0, .int .u8 0, .int .u8 0, .int .u8 0]).cells.toList.map AVal.v = byT (List.replicate (digs x).length 0 ++ List.replicate (8 - (digs x).length) 0) := by
    rw [List.replicate_append_replicate, show (digs x).length + (8 - (digs x).length) = 8 by omega]; rfl
  rw [e8]
  refine a_block ?_
  refine a_loop (fun n st V' => ∃ (y j : Nat) (l : List (Nat × AVal)) (c : List UInt8), j = n ∧ y < 18446744073709551616 ∧ (digs y).length = j ∧ st = ⟨l, 40⟩ ∧ SubT [(0, b), (1, uv y), (5, iv (form x).length), (6, pt b6 0), (7, iv ((j : Int) - 1))] l ∧ digs x = digs y ++ c ∧ V' = V.set b6 (.row (byT (List.replicate j 0 ++ (c ++ List.replicate (8 - (digs x).length) 0))))) ?_ (digs x).length _ _ ⟨x, (digs x).length, _, [], rfl, hx, rfl, rfl, ⟨rfl, rfl, rfl, rfl, by rw [← e0]; rfl, trivial⟩, by simp, rfl⟩
  rintro n₁ st W ⟨y, j, l, c, rfl, hy, hj, rfl, hs', hd, rfl⟩
  refine a_forget hs' ?_
  have hcl : (digs x).length = j + c.length := by rw [hd, List.length_append, hj]
  refine a_seq (a_seq (a_region ?_))
  refine a_v rfl (s_move (ev_t rfl)) ?_
  refine a_v rfl (s_cmp (ev_t rfl) ev_c rfl) ?_
  refine a_nil ?_
  refine a_cond (ev_t rfl) (fun hc => a_skip ?_) (fun hc => a_exit ?_)
  · have hj0 : 0 < j := by simp at hc; omega
    have ej : (j : Int) - 1 - 1 = ((j - 1 : Nat) : Int) - 1 := by omega
    have hy0 : 0 < y := by
      rcases Nat.eq_zero_or_pos y with h | h
      · subst h; simp [digs_zero] at hj; omega
      · exact h
    refine a_seq (a_block ?_)
    refine a_seq (a_region ?_)
    refine a_v rfl (s_move (ev_t rfl)) ?_
    refine a_v rfl (s_move (ev_t rfl)) ?_
    refine a_v rfl (s_convw ⟨_, Try.ui45⟩ Try.ui5 (ev_t rfl) (u8w _)) ?_
    refine a_v rfl (s_idxa Try.ar157 (ev_t rfl) (ev_t rfl) (by omega) (by omega)) ?_
    refine a_s (s_storew Try.sh5 (ev_t rfl) (ev_t rfl) (by simp [View.set, View.drop, vb6] <;> first | exact ⟨rfl, rfl⟩ | exact rfl) rfl rfl (by simp [byT]; omega) (wrDig hj0 (by omega))) ?_
    refine a_nil ?_
    refine a_region ?_
    refine a_v rfl (s_move (ev_t rfl)) ?_
    refine a_v rfl (s_shrw (ev_t rfl) ev_c (by decide) (shr8 _)) ?_
    refine a_v rfl (s_assign (ev_t rfl)) ?_
    refine a_nil ?_
    refine a_region ?_
    refine a_v rfl (s_move (ev_t rfl)) ?_
    refine a_v rfl (s_sub (ev_t rfl) ev_c (by omega) (by omega)) ?_
    refine a_v rfl (s_assign (ev_t rfl)) ?_
    refine a_nil ?_
    refine ⟨j - 1, by omega, y / 256, j - 1, _, UInt8.ofNat y :: c, rfl, by omega, ?_, rfl, ⟨rfl, rfl, rfl, rfl, by rw [← ej]; rfl, trivial⟩, by rw [hd, digs_pos hy0]; simp, ?_⟩
    · rw [digs_pos hy0] at hj; simp at hj; omega
    · rw [View.set_set]; rfl
  repeat first | refine thenA_x ?_ | refine blockA_hit ?_ | refine blockA_x (by decide) ?_
  have hj0 : j = 0 := by simp at hc; omega
  subst hj0
  have hy0 := digs_nil hj
  subst hy0
  have hdc : c = digs x := by rw [hd, digs_zero]; rfl
  subst hdc
  simp only [List.replicate_zero, List.nil_append]
  have A2 := Acc.set A0 (.row (byT (digs x ++ List.replicate (8 - (digs x).length) 0))) nb6
  refine a_seq (a_drawq [0, 1, 2, 3, 4, 5, 7, 8, 9, 6, 10, 11] [0, 1, 2, 3, 4, 5, 9, 6, 7, 8, 10, 11] [false, false, false, false, false, false, false, false, false, true, true, false] (V₀.set b6 (.row (byT (digs x ++ List.replicate (8 - (digs x).length) 0)))) (by kernel_rfl) Try.mixed rfl (by kernel_rfl) (accLe A2) ?_)
  refine d_v (fun V' hU => f_plain rfl (s_move (ev_o rfl rfl))) ?_
  refine d_v (fun V' hU => f_plain rfl (s_move (ev_o rfl rfl))) ?_
  refine d_v (fun V' hU => f_plain rfl (s_add ev_c (ev_o rfl rfl) (by omega) (by omega))) ?_
  refine d_v (fun V' hU => f_plain rfl (s_sub (ev_o rfl rfl) ev_c (by omega) (by omega))) ?_
  have e246 : (246 : Int) + ((form x).length : Int) - 1 = ((246 + (digs x).length : Nat) : Int) := by omega
  refine d_v (fun V' hU => f_plain rfl (s_convw ⟨_, Try.ui3⟩ Try.ui5 (ev_o rfl rfl) ((congrArg IntKind.u8.wrap e246).trans (u8w (246 + (digs x).length))))) ?_
  refine d_v (fun V' hU => f_plain rfl (s_litx Try.sl39 Try.z5 rfl rfl (.cons (ev_o rfl rfl) .nil) rfl rfl rfl)) ?_
  refine d_v (fun V' hU => f_plain rfl (s_move (ev_o rfl rfl))) ?_
  refine d_v (fun V' hU => f_plain rfl (s_sub (ev_o rfl rfl) ev_c (by omega) (by omega))) ?_
  refine d_v (fun V' hU => f_plain rfl (s_slicea Try.ar157 (ev_o rfl rfl) rfl (bnd_t (ev_o rfl rfl) (n := (digs x).length) (by omega)) (Nat.zero_le _) (by omega) (by decide))) ?_
  refine d_vp (s_acc Try.sl39 Try.src39 Try.z5 rfl Try.by5 (ev_o rfl rfl) A2 (src_b1 (ev_o rfl rfl)) rfl (by omega) (by omega)) fun xv Vv hx => ?_
  have A35 := hx; refine ⟨accLe A35, ?_⟩
  refine d_vp (s_acc Try.sl39 Try.src39 Try.z5 rfl Try.by5 (ev_o rfl rfl) A35 (src_rowby (bs := digs x ++ List.replicate (8 - (digs x).length) 0) (ev_o rfl rfl) (accLe A35 _ _ (View.set_same _ _ _)) (by simp)) (byT_one _) (by omega) (by omega)) fun xv Vv hx => ?_
  have A39 := hx; refine ⟨accLe A39, ?_⟩
  refine d_v (fun V' hU => f_plain rfl (s_assign (ev_o rfl rfl))) ?_
  refine d_nil ?_
  obtain ⟨V2, h2, A40⟩ := accShrink A39 (View.le_self_set (Acc.none A0 nb6))
  refine a_ret ?_
  refine ⟨[_], V2, ⟨_, _, rfl, ev_t rfl, rfl⟩, h2, ?_⟩
  rw [Nat.sub_zero, List.take_left, List.append_assoc, ← byT_app, show n + 1 + (digs x).length = n + (form x).length by omega] at A40
  show AV.Acc V2 _ 1 (n + (form x).length) (cs ++ byT (form x)) V₀
  rw [show byT (form x) = byT ([UInt8.ofNat (246 + (digs x).length)] ++ digs x) by rw [form_big hs]; rfl]
  exact A40
#print axioms fr_append
theorem fr_clone {b : List UInt8} (hb1 : b.length ≤ 1099511627776) (V : View) : ACalls Try.prog 56 [.tree 1 (byT b)] V (One (.tree 1 (byT b)) V) := by
  refine a_fn (fn := Try.f56) Try.func56 rfl ?_ rfl
  refine a_seq (a_region ?_)
  refine a_v rfl (s_assign ev_c) ?_
  refine a_nil ?_
  refine a_seq (a_seq (a_region ?_))
  refine a_v rfl (s_move (ev_t rfl)) ?_
  refine a_vp rfl (s_isnil Try.us39 (ev_t rfl)) fun xv Vv hx => ?_
  obtain ⟨rfl, r, rfl, hr⟩ := hx
  refine a_nil ?_
  refine a_cond (ev_t rfl) (fun hc => ?_) (fun hc => a_skip ?_)
  · have hb : b = [] := by have := hr hc; simpa [byT] using this
    refine a_seq (a_region ?_)
    refine a_v rfl (s_assign ev_c) ?_
    refine a_nil ?_
    refine a_ret ?_
    exact ⟨[.tree 1 []], _, ⟨_, _, rfl, ev_nil (ev_t rfl), rfl⟩, View.le_refl _, by rw [hb]; rfl, rfl⟩
  refine a_seq (a_region ?_)
  refine a_vp rfl (s_lito (cs := []) Try.sl39 Try.z5 rfl rfl .nil rfl) fun xv Vv hx => ?_
  have A5 := accNew (sz := 1) hx rfl rfl
  refine a_v rfl (s_move (ev_t rfl)) ?_
  refine a_vp rfl (OpS.freeze (s_acc Try.sl39 Try.src39 Try.z5 rfl Try.by5 (ev_t rfl) A5 (src_by (ev_t rfl)) (byT_one _) (by omega) (by omega)) (els := byT b) (byT_els _) (by simp [byT]) (byT_good _)) fun xv Vv hx => ?_
  obtain ⟨rfl, rfl⟩ := hx
  refine a_v rfl (s_assign (ev_t rfl)) ?_
  refine a_nil ?_
  refine a_ret ?_
  exact ⟨[_], _, ⟨_, _, rfl, ev_t rfl, rfl⟩, View.le_refl _, rfl, rfl⟩
#print axioms fr_clone
theorem fr_right (l : List Fld) (hl : l.length ≤ 1099511627776) (V : View) : ACalls Try.prog 32 [.tree 2 (flT l)] V (One (bv (rightF l)) V) := by
  refine a_fn (fn := Try.f32) Try.func32 rfl ?_ rfl
  refine a_seq (a_region ?_)
  refine a_v rfl (s_assign ev_c) ?_
  refine a_nil ?_
  refine a_seq (a_region ?_)
  refine a_v rfl (s_assign ev_c) ?_
  refine a_v rfl (s_assign ev_c) ?_
  refine a_nil ?_
  refine a_seq (a_seq (a_region ?_))
  refine a_v rfl (s_move (ev_t rfl)) ?_
  refine a_v rfl (s_lent Try.us89 (ev_t rfl)) ?_
  refine a_v rfl (s_move ev_c) ?_
  refine a_nil ?_
  refine a_block ?_
  refine a_loop (fun n st V' => ∃ (i : Nat) (lt : List (Nat × AVal)) (last left : Int), l.length - i = n ∧ i ≤ l.length ∧ 0 ≤ left ∧ left ≤ 16384 ∧ st = ⟨lt, 40⟩ ∧ SubT [(0, .tree 2 (flT l)), (3, iv last), (4, iv left), (7, .tree 2 (flT l)), (8, iv (flT l).length), (9, iv i)] lt ∧ V.le V' ∧ rightGo 0 16384 l = rightGo last left (l.drop i)) ?_ l.length _ _ ⟨0, _, 0, 16384, rfl, by omega, by omega, by omega, rfl, ⟨rfl, rfl, rfl, rfl, rfl, rfl, trivial⟩, View.le_refl _, rfl⟩
  rintro n st W ⟨i, lt, last, left, rfl, hi, h0, h1, rfl, hs, hV, hg⟩
  refine a_forget hs ?_
  refine a_seq (a_region ?_)
  refine a_v rfl (s_cmp (ev_t rfl) (ev_t rfl) rfl) ?_
  refine a_nil ?_
  refine a_seq (a_cond (ev_t rfl) (fun hc => a_skip ?_) (fun hc => a_exit ?_))
  · have hi' : i < l.length := by simp [flT_len] at hc; omega
    rw [List.drop_eq_getElem_cons hi', rightGo] at hg
    refine a_seq (a_block ?_)
    refine a_seq (a_region ?_)
    refine a_v rfl (s_idxt Try.sl89 (ev_t rfl) (ev_t rfl) (by omega) (flG hi')) ?_
    refine a_v rfl (s_loadr Try.sh100 rfl (ev_t rfl) (refA rfl)) ?_
    refine a_vp rfl (s_alloc Try.z100) fun xv Vv hx => ?_
    obtain ⟨b6, nb6, rfl, rfl⟩ := hx
    have vb6 : W b6 = none := by simpa [View.set, ] using nb6
    refine a_s (s_store Try.sh100 (ev_t rfl) (ev_t rfl) (by simp [View.set, View.drop, vb6] <;> first | exact ⟨rfl, rfl⟩ | exact rfl) rfl rfl (by first | decide | (simp; done) | (simp; omega))) ?_
    refine a_nil ?_
    refine a_seq (a_seq (a_region ?_))
    refine a_v rfl (s_fieldAddr Try.f100_0 rfl (ev_t rfl)) ?_
    refine a_v rfl (s_load Try.sh3 (ev_t rfl) (by simp [View.set, View.drop, vb6] <;> first | exact ⟨rfl, rfl⟩ | exact rfl) rfl) ?_
    refine a_v rfl (s_move (ev_t rfl)) ?_
    refine a_v rfl (s_cmp (ev_t rfl) (ev_t rfl) rfl) ?_
    refine a_v rfl (s_move (ev_t rfl)) ?_
    refine a_f rfl (f_guard rfl (gd_b rfl (ev_t rfl)) fun h4 => s_fieldAddr Try.f100_0 rfl (ev_t rfl)) ?_
    refine a_f rfl (f_guard rfl (gd_b rfl (ev_t rfl)) fun h4 => s_load Try.sh3 (ev_cond (ev_t rfl) h4) (by simp [View.set, View.drop, vb6] <;> first | exact ⟨rfl, rfl⟩ | exact rfl) rfl) ?_
    refine a_f rfl (f_guard rfl (gd_b rfl (ev_t rfl)) fun h4 => s_cmp (ev_cond (ev_t rfl) h4) ev_c rfl) ?_
    refine a_v rfl (s_pickor (ev_t rfl) (ev_t rfl)) ?_
    refine a_v rfl (s_move (ev_t rfl)) ?_
    refine a_f rfl (f_guard rfl (gd_b rfl (ev_t rfl)) fun h9 => s_fieldAddr Try.f100_1 rfl (ev_t rfl)) ?_
    refine a_f rfl (f_guard rfl (gd_b rfl (ev_t rfl)) fun h9 => s_load Try.sh39 (ev_cond (ev_t rfl) h9) (by simp [View.set, View.drop, vb6] <;> first | exact ⟨rfl, rfl⟩ | exact rfl) rfl) ?_
    refine a_f rfl (f_guard rfl (gd_b rfl (ev_t rfl)) fun h9 => s_leny Try.us39 (ev_cond (ev_t rfl) h9)) ?_
    refine a_f rfl (f_guard rfl (gd_b rfl (ev_t rfl)) fun h9 => s_move (ev_t rfl)) ?_
    refine a_f rfl (f_guard rfl (gd_b rfl (ev_t rfl)) fun h9 => s_cmp (ev_cond (ev_t rfl) h9) (ev_cond (ev_t rfl) h9) rfl) ?_
    refine a_v rfl (s_pickor (ev_t rfl) (ev_t rfl)) ?_
    refine a_nil ?_
    refine a_cond (ev_t rfl) (fun hc => ?_) (fun hc => a_skip ?_)
    · have hz : (l[i]).1 ≤ last ∨ (l[i]).1 > 200 ∨ ((l[i]).2.length : Int) > left := by simpa [byT_len, or_assoc, and_assoc] using hc
      rw [if_pos hz] at hg
      refine a_seq (a_region ?_)
      refine a_v rfl (s_assign ev_c) ?_
      refine a_nil ?_
      refine a_ret ?_
      exact ⟨[_], V, ⟨_, _, rfl, ev_t rfl, rfl⟩, View.le_trans hV (View.le_set (View.le_self_set vb6) vb6), by simp [rightF, hg, oneOf], rfl⟩
    have hz : ¬ ((l[i]).1 ≤ last ∨ (l[i]).1 > 200 ∨ ((l[i]).2.length : Int) > left) := by simpa [byT_len, or_assoc, and_assoc] using hc
    rw [if_neg hz] at hg
    have hz3 : ((l[i]).2.length : Int) ≤ left := by omega
    refine a_draw [false, false, false, false, false, false, false, false, false] (_) Try.mixed rfl (by kernel_rfl) (View.le_refl _) ?_
    refine d_v (fun V' hU => f_plain rfl (s_fieldAddr Try.f100_0 rfl (ev_o rfl rfl))) ?_
    refine d_v (fun V' hU => f_plain rfl (s_load Try.sh3 (ev_o rfl rfl) (hU _ _ (by simp [View.set, View.drop, vb6] <;> first | exact ⟨rfl, rfl⟩ | exact rfl)) rfl)) ?_
    refine d_v (fun V' hU => f_plain rfl (s_move (ev_o rfl rfl))) ?_
    refine d_v (fun V' hU => f_plain rfl (s_fieldAddr Try.f100_1 rfl (ev_o rfl rfl))) ?_
    refine d_v (fun V' hU => f_plain rfl (s_load Try.sh39 (ev_o rfl rfl) (hU _ _ (by simp [View.set, View.drop, vb6] <;> first | exact ⟨rfl, rfl⟩ | exact rfl)) rfl)) ?_
    refine d_v (fun V' hU => f_plain rfl (s_leny Try.us39 (ev_o rfl rfl))) ?_
    refine d_v (fun V' hU => f_plain rfl (s_sub (ev_o rfl rfl) (ev_o rfl rfl) (by omega) (by omega))) ?_
    refine d_v (fun V' hU => f_plain rfl (s_assign (ev_o rfl rfl))) ?_
    refine d_v (fun V' hU => f_plain rfl (s_assign (ev_o rfl rfl))) ?_
    refine d_nil ?_
    refine a_region ?_
    refine a_v rfl (s_add (ev_t rfl) ev_c (by omega) (by omega)) ?_
    refine a_v rfl (s_move (ev_t rfl)) ?_
    refine a_nil ?_
    exact ⟨l.length - (i + 1), by omega, i + 1, _, (l[i]).1, left - (l[i]).2.length, rfl, by omega, by omega, by omega, rfl, ⟨rfl, rfl, rfl, rfl, rfl, rfl, trivial⟩, View.le_trans hV (View.le_set (View.le_self_set vb6) vb6), hg⟩
  repeat first | refine thenA_x ?_ | refine blockA_hit ?_ | refine blockA_x (by decide) ?_
  have hi' : i = l.length := by simp [flT_len] at hc; omega
  subst hi'
  rw [List.drop_length, rightGo] at hg
  refine a_seq (a_region ?_)
  refine a_v rfl (s_move (ev_t rfl)) ?_
  refine a_v rfl (s_lent Try.us89 (ev_t rfl)) ?_
  refine a_v rfl (s_cmp (ev_t rfl) ev_c rfl) ?_
  refine a_v rfl (s_assign (ev_t rfl)) ?_
  refine a_nil ?_
  refine a_ret ?_
  exact ⟨[_], V, ⟨_, _, rfl, ev_t rfl, rfl⟩, hV, by simp [rightF, hg, oneOf, flT_len]; omega, rfl⟩
#print axioms fr_right
theorem fr_get (l : List Fld) (tag : Int) (hl : l.length ≤ 1099511627776) (hb : ∀ f ∈ l, f.2.length ≤ 1099511627776) (V : View) : ACalls Try.prog 33 [.tree 2 (flT l), iv tag] V (One (.tuple [.tree 1 (byT (getF l tag).1), bv (getF l tag).2]) V) := by
  refine a_fn (fn := Try.f33) Try.func33 rfl ?_ rfl
  refine a_seq (a_region ?_)
  refine a_v rfl (s_assign ev_c) ?_
  refine a_v rfl (s_assign ev_c) ?_
  refine a_nil ?_
  refine a_seq (a_seq (a_region ?_))
  refine a_v rfl (s_move (ev_t rfl)) ?_
  refine a_v rfl (s_lent Try.us89 (ev_t rfl)) ?_
  refine a_v rfl (s_move ev_c) ?_
  refine a_nil ?_
  refine a_block ?_
  refine a_loop (fun n st V' => ∃ (i : Nat) (lt : List (Nat × AVal)), l.length - i = n ∧ i ≤ l.length ∧ st = ⟨lt, 22⟩ ∧ SubT [(1, iv tag), (8, .tree 2 (flT l)), (9, iv (flT l).length), (10, iv i)] lt ∧ V.le V' ∧ getF l tag = getF (l.drop i) tag) ?_ l.length _ _ ⟨0, _, rfl, by omega, rfl, ⟨rfl, rfl, rfl, rfl, trivial⟩, View.le_refl _, rfl⟩
  rintro n st W ⟨i, lt, rfl, hi, rfl, hs, hV, hg⟩
  refine a_forget hs ?_
  refine a_seq (a_region ?_)
  refine a_v rfl (s_cmp (ev_t rfl) (ev_t rfl) rfl) ?_
  refine a_nil ?_
  refine a_seq (a_cond (ev_t rfl) (fun hc => a_skip ?_) (fun hc => a_exit ?_))
  · have hi' : i < l.length := by simp [flT_len] at hc; omega
    have hbi := hb _ (List.getElem_mem hi')
    rw [List.drop_eq_getElem_cons hi', getF] at hg
    refine a_seq (a_block ?_)
    refine a_seq (a_region ?_)
    refine a_v rfl (s_idxt Try.sl89 (ev_t rfl) (ev_t rfl) (by omega) (flG hi')) ?_
    refine a_v rfl (s_loadr Try.sh100 rfl (ev_t rfl) (refA rfl)) ?_
    refine a_vp rfl (s_alloc Try.z100) fun xv Vv hx => ?_
    obtain ⟨b7, nb7, rfl, rfl⟩ := hx
    have vb7 : W b7 = none := by simpa [View.set, ] using nb7
    refine a_s (s_store Try.sh100 (ev_t rfl) (ev_t rfl) (by simp [View.set, View.drop, vb7] <;> first | exact ⟨rfl, rfl⟩ | exact rfl) rfl rfl (by first | decide | (simp; done) | (simp; omega))) ?_
    refine a_nil ?_
    refine a_seq (a_region ?_)
    refine a_v rfl (s_fieldAddr Try.f100_0 rfl (ev_t rfl)) ?_
    refine a_v rfl (s_load Try.sh3 (ev_t rfl) (by simp [View.set, View.drop, vb7] <;> first | exact ⟨rfl, rfl⟩ | exact rfl) rfl) ?_
    refine a_v rfl (s_move (ev_t rfl)) ?_
    refine a_v rfl (s_cmp (ev_t rfl) (ev_t rfl) rfl) ?_
    refine a_nil ?_
    refine a_cond (ev_t rfl) (fun hc => ?_) (fun hc => a_skip ?_)
    · have hz : (l[i]).1 = tag := by simpa using hc
      rw [if_pos hz] at hg
      refine a_seq (a_region ?_)
      refine a_v rfl (s_fieldAddr Try.f100_1 rfl (ev_t rfl)) ?_
      refine a_v rfl (s_load Try.sh39 (ev_t rfl) (by simp [View.set, View.drop, vb7] <;> first | exact ⟨rfl, rfl⟩ | exact rfl) rfl) ?_
      refine a_v rfl (s_call Try.okF56 ev_f (.cons (ev_t rfl) .nil) (fr_clone (by omega) _)) ?_
      refine a_v rfl (s_assign (ev_t rfl)) ?_
      refine a_v rfl (s_assign ev_c) ?_
      refine a_nil ?_
      refine a_ret ?_
      exact ⟨[_, _], V, ⟨_, _, rfl, ev_t rfl, _, _, rfl, ev_t rfl, rfl⟩, View.le_trans hV (View.le_set (View.le_self_set vb7) vb7), by rw [hg]; rfl, rfl⟩
    have hz : ¬ (l[i]).1 = tag := by simpa using hc
    rw [if_neg hz] at hg
    refine a_region ?_
    refine a_v rfl (s_add (ev_t rfl) ev_c (by omega) (by omega)) ?_
    refine a_v rfl (s_move (ev_t rfl)) ?_
    refine a_nil ?_
    exact ⟨l.length - (i + 1), by omega, i + 1, _, rfl, by omega, rfl, ⟨rfl, rfl, rfl, rfl, trivial⟩, View.le_trans hV (View.le_set (View.le_self_set vb7) vb7), hg⟩
  repeat first | refine thenA_x ?_ | refine blockA_hit ?_ | refine blockA_x (by decide) ?_
  have hi' : i = l.length := by simp [flT_len] at hc; omega
  subst hi'
  rw [List.drop_length, getF] at hg
  refine a_seq (a_region ?_)
  refine a_v rfl (s_assign ev_c) ?_
  refine a_v rfl (s_assign ev_c) ?_
  refine a_nil ?_
  refine a_ret ?_
  exact ⟨[.tree 1 [], _], V, ⟨_, _, rfl, ev_nil (ev_t rfl), _, _, rfl, ev_t rfl, rfl⟩, hV, by rw [hg]; rfl, rfl⟩
#print axioms fr_get
theorem fr_write (b : List UInt8) (hb : b.length ≤ 16384) (V : View) : ACalls Try.prog 34 [.tree 1 (byT b)] V (One (.tuple [.tree 1 (byT (form b.length ++ b)), iv 0]) V) := by
  have hfl := form_len (n := b.length) (by omega)
  refine a_fn (fn := Try.f34) Try.func34 rfl ?_ rfl
  refine a_seq (a_region ?_)
  refine a_v rfl (s_assign ev_c) ?_
  refine a_v rfl (s_assign ev_c) ?_
  refine a_nil ?_
  refine a_seq (a_seq (a_region ?_))
  refine a_v rfl (s_move (ev_t rfl)) ?_
  refine a_v rfl (s_leny Try.us39 (ev_t rfl)) ?_
  refine a_v rfl (s_cmp (ev_t rfl) ev_c rfl) ?_
  refine a_nil ?_
  refine a_cond (ev_t rfl) (fun hc => ?_) (fun hc => a_skip ?_)
  · exfalso; simp at hc; omega
  refine a_seq (a_region ?_)
  refine a_v rfl (s_move (ev_t rfl)) ?_
  refine a_v rfl (s_leny Try.us39 (ev_t rfl)) ?_
  refine a_v rfl (s_convw ⟨_, Try.ui3⟩ Try.ui45 (ev_t rfl) (wrapu64 (by omega) (by omega))) ?_
  refine a_vp rfl (s_call Try.okF54 ev_f (.cons ev_c (.cons (ev_t rfl) .nil)) (fr_append (by omega) (by omega) accNil)) fun xv Vv hx => ?_
  have A10 := hx
  refine a_v rfl (s_move (ev_t rfl)) ?_
  refine a_vp rfl (OpS.freeze (s_acc Try.sl39 Try.src39 Try.z5 rfl Try.by5 (ev_t rfl) A10 (src_by (ev_t rfl)) (byT_one _) (by omega) (by omega)) (els := byT (form b.length ++ b)) (by rw [← byT_els, byT_app]; rfl) (by simp [byT]) (byT_good _)) fun xv Vv hx => ?_
  obtain ⟨rfl, rfl⟩ := hx
  refine a_v rfl (s_assign (ev_t rfl)) ?_
  refine a_v rfl (s_assign ev_c) ?_
  refine a_nil ?_
  refine a_ret ?_
  exact ⟨[_, _], _, ⟨_, _, rfl, ev_t rfl, _, _, rfl, ev_t rfl, rfl⟩, View.le_refl _, rfl, rfl⟩
#print axioms fr_write
theorem recF_len (l : List Fld) (h : rightF l = true) : l.length ≤ 64 ∧ (∀ f ∈ l, 0 < f.1 ∧ f.1 ≤ 200 ∧ f.2.length ≤ 16384) := by
  have key : ∀ (l : List Fld) (last left : Int), 0 ≤ last → left ≤ 16384 → rightGo last left l = true → ∀ f ∈ l, 0 < f.1 ∧ f.1 ≤ 200 ∧ f.2.length ≤ 16384 := by
    intro l
    induction l with
    | nil => intro _ _ _ _ _ f hf; cases hf
    | cons g r ih =>
      intro last left h0 h1 h f hf
      rw [rightGo] at h
      split at h
      · cases h
      · rename_i hn
        rcases List.mem_cons.1 hf with rfl | hf
        · omega
        · exact ih _ _ (by omega) (by omega) h f hf
  simp only [rightF, Bool.and_eq_true, decide_eq_true_eq] at h
  exact ⟨h.2, key l 0 16384 (by omega) (by omega) h.1⟩
theorem fr_fwrite (l : List Fld) (h : rightF l = true) (V : View) : ACalls Try.prog 30 [.tree 2 (flT l)] V (One (.tuple [.tree 1 (byT (recF l)), iv 0]) V) := by
  obtain ⟨hl, hf⟩ := recF_len l h
  refine a_fn (fn := Try.f30) Try.func30 rfl ?_ rfl
  refine a_seq (a_region ?_)
  refine a_v rfl (s_assign ev_c) ?_
  refine a_v rfl (s_assign ev_c) ?_
  refine a_nil ?_
  refine a_seq (a_seq (a_region ?_))
  refine a_v rfl (s_move (ev_t rfl)) ?_
  refine a_v rfl (s_call Try.okF32 ev_f (.cons (ev_t rfl) .nil) (fr_right l (by omega) _)) ?_
  refine a_v rfl (s_not (ev_t rfl)) ?_
  refine a_nil ?_
  refine a_cond (ev_t rfl) (fun hc => ?_) (fun hc => a_skip ?_)
  · exfalso; simp [h] at hc
  refine a_seq (a_region ?_)
  refine a_v rfl (s_assign ev_c) ?_
  refine a_nil ?_
  refine a_seq (a_seq (a_region ?_))
  refine a_v rfl (s_move (ev_t rfl)) ?_
  refine a_v rfl (s_lent Try.us89 (ev_t rfl)) ?_
  refine a_v rfl (s_move ev_c) ?_
  refine a_nil ?_
  refine a_block ?_
  refine a_loop (fun n st V' => ∃ (i : Nat) (lt : List (Nat × AVal)) (b : AVal) (c : List UInt8) (V₁ : View), l.length - i = n ∧ i ≤ l.length ∧ c.length ≤ 20000 * i ∧ st = ⟨lt, 32⟩ ∧ SubT [(4, b), (10, .tree 2 (flT l)), (11, iv (flT l).length), (12, iv i)] lt ∧ V.le V₁ ∧ Acc V' b 1 c.length (byT c) V₁ ∧ recF l = c ++ recF (l.drop i)) ?_ l.length _ _ ⟨0, _, _, [], V, rfl, by omega, by simp, rfl, ⟨rfl, rfl, rfl, rfl, trivial⟩, View.le_refl _, accNil, rfl⟩
  rintro n st W ⟨i, lt, b, c, V₁, rfl, hi, hcl, rfl, hs, hV, A4, hg⟩
  refine a_forget hs ?_
  refine a_seq (a_region ?_)
  refine a_v rfl (s_cmp (ev_t rfl) (ev_t rfl) rfl) ?_
  refine a_nil ?_
  refine a_seq (a_cond (ev_t rfl) (fun hc => a_skip ?_) (fun hc => a_exit ?_))
  · have hi' : i < l.length := by simp [flT_len] at hc; omega
    have hfi := hf _ (List.getElem_mem hi')
    have hfl := form_len (n := (l[i]).2.length) (by omega)
    have hd : l.drop i = l[i] :: l.drop (i + 1) := List.drop_eq_getElem_cons hi'
    have hr : recF (l.drop i) = (UInt8.ofNat (l[i]).1.toNat :: (form (l[i]).2.length ++ (l[i]).2)) ++ recF (l.drop (i + 1)) := by rw [hd]; rfl
    have e1 : ((((l[i]).1).toNat : Nat) : Int) = (l[i]).1 := by omega
    refine a_seq (a_block ?_)
    refine a_seq (a_region ?_)
    refine a_v rfl (s_idxt Try.sl89 (ev_t rfl) (ev_t rfl) (by omega) (flG hi')) ?_
    refine a_v rfl (s_loadr Try.sh100 rfl (ev_t rfl) (refA rfl)) ?_
    refine a_vp rfl (s_alloc Try.z100) fun xv Vv hx => ?_
    obtain ⟨b6, nb6, rfl, rfl⟩ := hx
    have vb6 : W b6 = none := by simpa [View.set, ] using nb6
    refine a_s (s_store Try.sh100 (ev_t rfl) (ev_t rfl) (by simp [View.set, View.drop, vb6] <;> first | exact ⟨rfl, rfl⟩ | exact rfl) rfl rfl (by first | decide | (simp; done) | (simp; omega))) ?_
    refine a_nil ?_
    rw [View.set_set]
    change ATrip none Try.prog _ _ _ (W.set b6 (.row [iv (l[i]).1, .tree 1 (byT (l[i]).2)]))
    have A5 := Acc.set A4 (.row [iv (l[i]).1, .tree 1 (byT (l[i]).2)]) nb6
    have v1 := Acc.none A4 nb6
    refine a_drawq [0, 1, 2, 3, 4, 6, 7, 8, 9, 11, 12, 5, 10, 13, 14] [0, 1, 2, 3, 4, 11, 5, 6, 7, 8, 12, 9, 10, 13, 14] [false, false, false, false, false, false, false, false, false, false, false, true, true, true, false] ((V₁.set b6 (.row [iv (l[i]).1, .tree 1 (byT (l[i]).2)]))) (by kernel_rfl) Try.mixed rfl (by kernel_rfl) (accLe A5) ?_
    refine d_v (fun V' hU => f_plain rfl (s_move (ev_o rfl rfl))) ?_
    refine d_v (fun V' hU => f_plain rfl (s_fieldAddr Try.f100_0 rfl (ev_o rfl rfl))) ?_
    refine d_v (fun V' hU => f_plain rfl (s_load Try.sh3 (ev_o rfl rfl) (hU _ _ (by simp [View.set, View.drop, ] <;> first | exact ⟨rfl, rfl⟩ | exact rfl)) rfl)) ?_
    refine d_v (fun V' hU => f_plain rfl (s_convw ⟨_, Try.ui3⟩ Try.ui5 (ev_o rfl rfl) ((congrArg IntKind.u8.wrap e1.symm).trans (u8w _)))) ?_
    refine d_v (fun V' hU => f_plain rfl (s_litx Try.sl39 Try.z5 rfl rfl (.cons (ev_o rfl rfl) .nil) rfl rfl rfl)) ?_
    refine d_v (fun V' hU => f_plain rfl (s_fieldAddr Try.f100_1 rfl (ev_o rfl rfl))) ?_
    refine d_v (fun V' hU => f_plain rfl (s_load Try.sh39 (ev_o rfl rfl) (hU _ _ (by simp [View.set, View.drop, ] <;> first | exact ⟨rfl, rfl⟩ | exact rfl)) rfl)) ?_
    refine d_v (fun V' hU => f_plain rfl (s_leny Try.us39 (ev_o rfl rfl))) ?_
    refine d_v (fun V' hU => f_plain rfl (s_convw ⟨_, Try.ui3⟩ Try.ui45 (ev_o rfl rfl) (wrapu64 (by omega) (by omega)))) ?_
    refine d_v (fun V' hU => f_plain rfl (s_fieldAddr Try.f100_1 rfl (ev_o rfl rfl))) ?_
    refine d_v (fun V' hU => f_plain rfl (s_load Try.sh39 (ev_o rfl rfl) (hU _ _ (by simp [View.set, View.drop, ] <;> first | exact ⟨rfl, rfl⟩ | exact rfl)) rfl)) ?_
    refine d_vp (s_acc Try.sl39 Try.src39 Try.z5 rfl Try.by5 (ev_o rfl rfl) A5 (src_b1 (ev_o rfl rfl)) rfl (by omega) (by omega)) fun xv Vv hx => ?_
    have A21 := hx; refine ⟨accLe A21, ?_⟩
    refine d_vp (s_call Try.okF54 ev_f (.cons (ev_o rfl rfl) (.cons (ev_o rfl rfl) .nil)) (fr_append (by omega) (by omega) A21)) fun xv Vv hx => ?_
    have A26 := hx; refine ⟨accLe A26, ?_⟩
    refine d_vp (s_acc Try.sl39 Try.src39 Try.z5 rfl Try.by5 (ev_o rfl rfl) A26 (src_by (ev_o rfl rfl)) (byT_one _) (by omega) (by omega)) fun xv Vv hx => ?_
    have A29 := hx; refine ⟨accLe A29, ?_⟩
    refine d_v (fun V' hU => f_plain rfl (s_assign (ev_o rfl rfl))) ?_
    refine d_nil ?_
    refine a_region ?_
    refine a_v rfl (s_add (ev_t rfl) ev_c (by omega) (by omega)) ?_
    refine a_v rfl (s_move (ev_t rfl)) ?_
    refine a_nil ?_
    exact ⟨l.length - (i + 1), by omega, i + 1, _, _, c ++ (UInt8.ofNat (l[i]).1.toNat :: (form (l[i]).2.length ++ (l[i]).2)), _, rfl, by omega, by simp; omega, rfl, ⟨rfl, rfl, rfl, rfl, trivial⟩, View.le_set hV (View.le_none hV v1), accCast A29 (by simp; omega) (by simp [byT]), by rw [hg, hr]; simp⟩
  repeat first | refine thenA_x ?_ | refine blockA_hit ?_ | refine blockA_x (by decide) ?_
  have hi' : i = l.length := by simp [flT_len] at hc; omega
  subst hi'
  have hg' : recF l = c := by rw [hg, List.drop_length]; simp [recF]
  refine a_seq (a_region ?_)
  refine a_v rfl (s_move (ev_t rfl)) ?_
  refine a_v rfl (s_assign (ev_t rfl)) ?_
  refine a_v rfl (s_assign ev_c) ?_
  refine a_nil ?_
  obtain ⟨V2, h2, A6⟩ := accShrink A4 hV
  refine a_weaken h2 ?_
  refine a_acc_tree (t := 2) A6 (byT_els _) (byT_len _) (byT_good _) rfl ?_
  refine a_ret ?_
  exact ⟨[_, _], V, ⟨_, _, rfl, ev_t rfl, _, _, rfl, ev_t rfl, rfl⟩, View.le_refl _, by rw [hg']; rfl, rfl⟩
#print axioms fr_fwrite
end Go.Proofs
