/- Frames and records: the walk through fields that are read. -/
import Derived.Test.YtapelipehckbcaaFrE
set_option linter.unusedVariables false
set_option linter.unusedSimpArgs false
namespace Go.AV
theorem ev_aggnil {st : ASt} {y : Operand} {a : AVal} {sz : Nat} (h : Ev st y (.agg [a, .v (.slice none 0 0)])) : Ev st y (.agg [a, .tree sz []]) := by
  intro m A q
  have := h m A q
  simp only [Tr] at this ⊢
  obtain ⟨vs, e, k⟩ := this
  refine ⟨vs, e, ?_⟩
  simp only [TrL] at k ⊢
  obtain ⟨v, r, e1, h1, u, r2, e2, h2, e3⟩ := k
  refine ⟨v, r, e1, h1, u, r2, e2, ?_, e3⟩
  simp only [Tr] at h2 ⊢
  exact ⟨none, 0, h2, Nat.le_refl _, .inl rfl⟩
/-- The field that bytes begin with: is it one, its tag, its bytes, how many bytes it takes. -/
def fieldG (b : List UInt8) : Bool × Int × List UInt8 × Nat :=
  let i := intF 16384 (b.drop 1)
  if i.2.2 ≠ 0 ∨ (i.1 : Int) > b.length - (1 + i.2.1 : Nat) then (false, 0, [], 0) else (true, ((b.headD 0).toNat : Int), (b.drop (1 + i.2.1)).take i.1, 1 + i.2.1 + i.1)
theorem intF_n (most : Nat) (b : List UInt8) : (intF most b).2.1 ≤ 9 ∧ (intF most b).1 ≤ most ∧ (intF most b).2.1 ≤ b.length := by
  have := readF_n b
  unfold intF
  split
  · simp
  · split
    · simp
    · simp; omega
theorem form_len3 {n : Nat} (h : n ≤ 16384) : (form n).length ≤ 3 := by
  have := digs_len2 (n := n) (by omega)
  unfold form; split <;> simp <;> omega
theorem recF_size : ∀ (l : List Fld) (last left : Int), left ≤ 16384 → rightGo last left l = true → ((recF l).length : Int) ≤ (if l = [] then 0 else left) + 4 * l.length := by
  intro l
  induction l with
  | nil => intro last left _ _; simp [recF]
  | cons f r ih =>
    intro last left hl h
    rw [rightGo] at h
    split at h
    · cases h
    · rename_i hn
      have h1 := ih f.1 (left - f.2.length) (by omega) h
      have h3 := form_len3 (n := f.2.length) (by omega)
      have e : (recF (f :: r)).length = 1 + (form f.2.length).length + f.2.length + (recF r).length := by simp [recF]; omega
      rw [e]
      simp only [List.length_cons, reduceCtorEq, if_false]
      split at h1 <;> push_cast <;> omega
theorem recF_drop {l : List Fld} {i : Nat} (hi : i < l.length) : recF (l.drop i) = UInt8.ofNat (l[i]).1.toNat :: (form (l[i]).2.length ++ ((l[i]).2 ++ recF (l.drop (i + 1)))) := by
  rw [List.drop_eq_getElem_cons hi]
  show (UInt8.ofNat (l[i]).1.toNat :: (form (l[i]).2.length ++ (l[i]).2)) ++ recF (l.drop (i + 1)) = _
  simp
theorem recF_split (l : List Fld) (i : Nat) : recF l = recF (l.take i) ++ recF (l.drop i) := by
  rw [recF, recF, recF, ← List.flatMap_append, List.take_append_drop]
theorem recF_at (l : List Fld) (i : Nat) : (recF l).drop (recF (l.take i)).length = recF (l.drop i) := by
  rw [recF_split l i, List.drop_left' rfl]
theorem recF_take {l : List Fld} {i : Nat} (hi : i < l.length) : (recF (l.take (i + 1))).length = (recF (l.take i)).length + (1 + (form (l[i]).2.length).length + (l[i]).2.length) := by
  unfold recF; rw [List.take_succ_eq_append_getElem hi, List.flatMap_append]; simp; omega
theorem fieldG_rec {l : List Fld} {i : Nat} (hi : i < l.length) (h : 0 < (l[i]).1 ∧ (l[i]).1 ≤ 200 ∧ (l[i]).2.length ≤ 16384) :
    fieldG (recF (l.drop i)) = (true, (l[i]).1, (l[i]).2, 1 + (form (l[i]).2.length).length + (l[i]).2.length) := by
  rw [recF_drop hi]
  have hr := readF_form (x := (l[i]).2.length) (by omega) ((l[i]).2 ++ recF (l.drop (i + 1)))
  have hi' : intF 16384 (form (l[i]).2.length ++ ((l[i]).2 ++ recF (l.drop (i + 1)))) = ((l[i]).2.length, (form (l[i]).2.length).length, 0) := by
    unfold intF; rw [hr]; simp; omega
  unfold fieldG
  simp only [List.drop_succ_cons, List.drop_zero, hi']
  rw [if_neg (by simp; omega)]
  have h1 : ((List.headD (UInt8.ofNat (l[i]).1.toNat :: (form (l[i]).2.length ++ ((l[i]).2 ++ recF (l.drop (i + 1))))) 0).toNat : Int) = (l[i]).1 := by
    simp only [List.headD_cons, UInt8.toNat_ofNat']; omega
  rw [h1, Nat.add_comm 1 (form _).length, List.drop_succ_cons, List.drop_left, List.take_left]
theorem flT_els (l : List Fld) : (flT l).all (fun x => x.good && Nat.beq x.cells.length 2) = true := by
  rw [List.all_eq_true]; intro x hx; simp only [flT, List.mem_map] at hx; obtain ⟨b, _, rfl⟩ := hx; rfl
end Go.AV
namespace Go.Proofs
open Go.AV
theorem fr_fields0 (b : List UInt8) (V : View) : ACalls Try.prog 55 [.tree 1 (byT b)] V fun x V' => ∃ b1, V b1 = none ∧ x = fnv 69 b1 ∧ V' = V.set b1 (.row [.tree 1 (byT b)]) := by
  refine a_fn (fn := Try.f55) Try.func55 rfl ?_ rfl
  refine a_seq (a_region ?_)
  refine a_vp rfl (s_box (ev_t rfl) rfl) fun xv Vv hx => ?_
  obtain ⟨b1, nb1, rfl, rfl⟩ := hx
  have vb1 : V b1 = none := by simpa [View.set, ] using nb1
  refine a_v rfl (s_assign ev_c) ?_
  refine a_nil ?_
  refine a_seq (a_region ?_)
  refine a_v rfl (s_makeFunc (us := []) (vs := [_]) rfl ⟨_, _, rfl, (ev_t rfl), rfl⟩) ?_
  refine a_v rfl (s_assign (ev_t rfl)) ?_
  refine a_nil ?_
  refine a_ret ?_
  exact ⟨[_], _, ⟨_, _, rfl, ev_t rfl, rfl⟩, View.le_refl _, b1, nb1, rfl, rfl⟩
theorem fr_fields1 {b : List UInt8} {L b1 : Nat} {V : View} {Post : View → Prop} (K : Nat → View → Prop) (hb : b.length ≤ 1099511627776)
    (h1 : V b1 = some (.row [.tree 1 (byT b)])) (hV : K 0 V)
    (hy : ∀ at' V, at' < b.length → K at' V → V b1 = some (.row [.tree 1 (byT b)]) → AYield Try.prog L [iv at', .agg [iv (fieldG (b.drop at')).2.1, .tree 1 (byT (fieldG (b.drop at')).2.2.1)]] V fun x V' => V' b1 = some (.row [.tree 1 (byT b)]) ∧ ∃ r : Bool, x = bv r ∧
      ((r = true ∧ (fieldG (b.drop at')).1 = true) → K (at' + (fieldG (b.drop at')).2.2.2) V') ∧ (¬ (r = true ∧ (fieldG (b.drop at')).1 = true) → Post V'))
    (hend : ∀ V, K b.length V → Post V) : ACalls Try.prog 69 [yv L, pt b1 0] V fun _ V' => Post V' := by
  refine a_fn (fn := Try.f69) Try.func69 rfl ?_ rfl
  refine a_seq (a_region ?_)
  refine a_v rfl (s_assign ev_c) ?_
  refine a_nil ?_
  refine a_block ?_
  refine a_loop (fun n st V' => ∃ (at' : Nat) (l : List (Nat × AVal)), b.length - at' = n ∧ at' ≤ b.length ∧ st = ⟨l, 57⟩ ∧ SubT [(0, yv L), (1, pt b1 0), (3, iv at')] l ∧ V' b1 = some (.row [.tree 1 (byT b)]) ∧ K at' V') ?_ b.length _ _ ⟨0, _, rfl, by omega, rfl, ⟨rfl, rfl, rfl, trivial⟩, h1, hV⟩
  rintro n st W ⟨at', l, rfl, ha, rfl, hs, g1, hK⟩
  refine a_forget hs ?_
  refine a_seq (a_seq (a_region ?_))
  refine a_v rfl (s_move (ev_t rfl)) ?_
  refine a_v rfl (s_load Try.sh39 (ev_t rfl) (by simp [View.set, View.drop, g1] <;> first | exact ⟨rfl, rfl⟩ | exact rfl) rfl) ?_
  refine a_v rfl (s_leny Try.us39 (ev_t rfl)) ?_
  refine a_v rfl (s_cmp (ev_t rfl) (ev_t rfl) rfl) ?_
  refine a_nil ?_
  refine a_cond (ev_t rfl) (fun hc => a_skip ?_) (fun hc => a_exit ?_)
  · have ha' : at' < b.length := by simp at hc; omega
    have hn := intF_n 16384 (b.drop (at' + 1))
    have hG := hy at' W ha' hK g1
    have hbat : bat b (at' : Int) = (((b.drop at').headD 0).toNat : Int) := by
      rw [batE ha' rfl, List.drop_eq_getElem_cons ha', List.headD_cons]
    have hb8 := ((b.drop at').headD 0).toNat_lt
    have e1 : ((at' : Int) + 1) = ((at' + 1 : Nat) : Int) := by omega
    rw [fieldG] at hG
    simp only [List.drop_drop, List.length_drop] at hn hG
    refine a_block ?_
    refine a_seq (a_region ?_)
    refine a_v rfl (s_load Try.sh39 (ev_t rfl) (by simp [View.set, View.drop, g1] <;> first | exact ⟨rfl, rfl⟩ | exact rfl) rfl) ?_
    refine a_v rfl (s_move (ev_t rfl)) ?_
    refine a_v rfl (e1 ▸ s_add (ev_t rfl) ev_c (by omega) (by omega)) ?_
    refine a_v rfl (s_call Try.okF70 ev_f (.cons (ev_t rfl) (.cons (ev_t rfl) (.cons ev_c (.cons ev_c .nil)))) (fr_int (at' := at' + 1) (most := 16384) (by omega) (by omega) (by omega) _)) ?_
    refine a_v rfl (s_move (ev_t rfl)) ?_
    refine a_v rfl (s_extract (ev_t rfl) rfl) ?_
    refine a_v rfl (s_extract (ev_t rfl) rfl) ?_
    refine a_v rfl (s_extract (ev_t rfl) rfl) ?_
    refine a_v rfl (s_assign (ev_t rfl)) ?_
    refine a_v rfl (s_assign (ev_t rfl)) ?_
    refine a_v rfl (s_assign (ev_t rfl)) ?_
    refine a_nil ?_
    refine a_seq (a_region ?_)
    refine a_v rfl (s_move (ev_t rfl)) ?_
    refine a_v rfl (s_add (ev_t rfl) ev_c (by omega) (by omega)) ?_
    refine a_v rfl (s_move (ev_t rfl)) ?_
    refine a_v rfl (s_add (ev_t rfl) (ev_t rfl) (by omega) (by omega)) ?_
    refine a_v rfl (s_assign (ev_t rfl)) ?_
    refine a_nil ?_
    refine a_seq (a_seq (a_region ?_))
    refine a_v rfl (s_move (ev_t rfl)) ?_
    refine a_v rfl (s_cmp (ev_t rfl) ev_c rfl) ?_
    refine a_v rfl (s_move (ev_t rfl)) ?_
    refine a_f rfl (f_guard rfl (gd_b rfl (ev_t rfl)) fun h2 => s_move (ev_t rfl)) ?_
    refine a_f rfl (f_guard rfl (gd_b rfl (ev_t rfl)) fun h2 => s_load Try.sh39 (ev_t rfl) (by simp [View.set, View.drop, g1] <;> first | exact ⟨rfl, rfl⟩ | exact rfl) rfl) ?_
    refine a_f rfl (f_guard rfl (gd_b rfl (ev_t rfl)) fun h2 => s_leny Try.us39 (ev_cond (ev_t rfl) h2)) ?_
    refine a_f rfl (f_guard rfl (gd_b rfl (ev_t rfl)) fun h2 => s_move (ev_t rfl)) ?_
    refine a_f rfl (f_guard rfl (gd_b rfl (ev_t rfl)) fun h2 => s_sub (ev_cond (ev_t rfl) h2) (ev_cond (ev_t rfl) h2) (by omega) (by omega)) ?_
    refine a_f rfl (f_guard rfl (gd_b rfl (ev_t rfl)) fun h2 => s_cmp (ev_cond (ev_t rfl) h2) (ev_cond (ev_t rfl) h2) rfl) ?_
    refine a_v rfl (s_pickor (ev_t rfl) (ev_t rfl)) ?_
    refine a_nil ?_
    refine a_cond (ev_t rfl) (fun hc => ?_) (fun hc => a_skip ?_)
    · have hz : (intF 16384 (b.drop (at' + 1))).2.2 ≠ 0 ∨ ((intF 16384 (b.drop (at' + 1))).1 : Int) > ((b.length - at' : Nat) : Int) - (1 + (intF 16384 (b.drop (at' + 1))).2.1 : Nat) := by
        simp at hc
        rcases hc with h | h
        · exact .inl (by simpa using h)
        · right; omega
      rw [if_pos hz] at hG
      refine a_seq (a_region ?_)
      refine a_v rfl (s_move (ev_t rfl)) ?_
      refine a_v rfl (s_move (ev_t rfl)) ?_
      refine a_v rfl (s_build Try.z100 Try.pl100 .nil rfl) ?_
      refine a_vp rfl (s_yield (ev_t rfl) (.cons (ev_t rfl) (.cons (ev_aggnil (sz := 1) (ev_t rfl)) .nil)) hG) fun xv Vv hx => ?_
      obtain ⟨q1, r, rfl, hT, hF⟩ := hx
      refine a_nil ?_
      refine a_ret ?_
      exact ⟨[], _, rfl, View.le_refl _, hF (by simp)⟩
    have hz : ¬ ((intF 16384 (b.drop (at' + 1))).2.2 ≠ 0 ∨ ((intF 16384 (b.drop (at' + 1))).1 : Int) > ((b.length - at' : Nat) : Int) - (1 + (intF 16384 (b.drop (at' + 1))).2.1 : Nat)) := by
      simp at hc
      rintro (h | h)
      · exact h hc.1
      · have := hc.2; omega
    rw [if_neg hz] at hG
    have hz2 : (intF 16384 (b.drop (at' + 1))).1 + (at' + 1 + (intF 16384 (b.drop (at' + 1))).2.1) ≤ b.length := by omega
    have hsl : (b.take (at' + 1 + (intF 16384 (b.drop (at' + 1))).2.1 + (intF 16384 (b.drop (at' + 1))).1)).drop (at' + 1 + (intF 16384 (b.drop (at' + 1))).2.1) = (b.drop (at' + (1 + (intF 16384 (b.drop (at' + 1))).2.1))).take (intF 16384 (b.drop (at' + 1))).1 := by
      rw [List.drop_take, Nat.add_sub_cancel_left, Nat.add_assoc at' 1]
    rw [← hsl] at hG
    refine a_seq (a_seq (a_draw [false, false, false, false, false, false, false, false, false, false, false, false, false, false, true, false] ((View.set (fun _ => none) b1 (.row [.tree 1 (byT b)]))) Try.mixed rfl (by kernel_rfl) (View.one_le g1) ?_))
    refine d_v (fun V' hU => f_plain rfl (s_move (ev_o rfl rfl))) ?_
    refine d_v (fun V' hU => f_plain rfl (s_move (ev_o rfl rfl))) ?_
    refine d_v (fun V' hU => f_plain rfl (s_load Try.sh39 (ev_o rfl rfl) (hU _ _ (View.set_same _ _ _)) rfl)) ?_
    refine d_v (fun V' hU => f_plain rfl (s_move (ev_o rfl rfl))) ?_
    refine d_v (fun V' hU => f_plain rfl (s_idxt Try.sl39 (ev_o rfl rfl) (ev_o rfl rfl) (by omega) (byGe (by omega) hbat))) ?_
    refine d_v (fun V' hU => f_plain rfl (s_loadr Try.sh5 rfl (ev_o rfl rfl) (ref1 rfl))) ?_
    refine d_v (fun V' hU => f_plain rfl (s_convw ⟨_, Try.ui5⟩ Try.ui3 (ev_o rfl rfl) (wrap64_id (by omega) (by omega)))) ?_
    refine d_v (fun V' hU => f_plain rfl (s_load Try.sh39 (ev_o rfl rfl) (hU _ _ (View.set_same _ _ _)) rfl)) ?_
    refine d_v (fun V' hU => f_plain rfl (s_move (ev_o rfl rfl))) ?_
    refine d_v (fun V' hU => f_plain rfl (s_move (ev_o rfl rfl))) ?_
    refine d_v (fun V' hU => f_plain rfl (s_move (ev_o rfl rfl))) ?_
    refine d_v (fun V' hU => f_plain rfl (s_add (ev_o rfl rfl) (ev_o rfl rfl) (by omega) (by omega))) ?_
    refine d_v (fun V' hU => f_plain rfl (s_slicety Try.sl39 (ev_o rfl rfl) (bnd_t (ev_o rfl rfl) (n := at' + 1 + (intF 16384 (b.drop (at' + 1))).2.1) (by omega)) (bnd_t (ev_o rfl rfl) (n := at' + 1 + (intF 16384 (b.drop (at' + 1))).2.1 + (intF 16384 (b.drop (at' + 1))).1) (by omega)) (by omega) (by omega))) ?_
    refine d_v (fun V' hU => f_plain rfl (s_build Try.z100 Try.pl100 (.cons (ev_o rfl rfl) (.cons (ev_o rfl rfl) .nil)) rfl)) ?_
    refine d_vp (s_yield (ev_o rfl rfl) (.cons (ev_o rfl rfl) (.cons (ev_o rfl rfl) .nil)) hG) fun xv Vv hx => ?_
    obtain ⟨q1, r, rfl, hT, hF⟩ := hx; refine ⟨View.one_le q1, ?_⟩
    refine d_v (fun V' hU => f_plain rfl (s_not (ev_o rfl rfl))) ?_
    refine d_nil ?_
    refine a_cond (ev_t rfl) (fun hc => a_ret ?_) (fun hc => a_skip ?_)
    · exact ⟨[], _, rfl, View.le_refl _, hF (by rintro ⟨rfl, _⟩; simp at hc)⟩
    have hr : r = true := by simpa using hc
    refine a_region ?_
    refine a_v rfl (s_move (ev_t rfl)) ?_
    refine a_v rfl (s_move (ev_t rfl)) ?_
    refine a_v rfl (s_add (ev_t rfl) (ev_t rfl) (by omega) (by omega)) ?_
    refine a_v rfl (s_assign (ev_t rfl)) ?_
    refine a_nil ?_
    exact ⟨b.length - (at' + (1 + (intF 16384 (b.drop (at' + 1))).2.1 + (intF 16384 (b.drop (at' + 1))).1)), by omega, at' + (1 + (intF 16384 (b.drop (at' + 1))).2.1 + (intF 16384 (b.drop (at' + 1))).1), _, rfl, by omega, rfl, ⟨rfl, rfl, by rw [show ((at' + (1 + (intF 16384 (b.drop (at' + 1))).2.1 + (intF 16384 (b.drop (at' + 1))).1) : Nat) : Int) = (at' : Int) + 1 + ((intF 16384 (b.drop (at' + 1))).2.1 : Int) + ((intF 16384 (b.drop (at' + 1))).1 : Int) by omega]; rfl, trivial⟩, q1, hT ⟨hr, rfl⟩⟩
  repeat first | refine thenA_x ?_ | refine blockA_hit ?_ | refine blockA_x (by decide) ?_
  have ha' : at' = b.length := by simp at hc; omega
  subst ha'
  exact ⟨[], _, rfl, View.le_refl _, hend _ hK⟩
#print axioms fr_fields1
theorem fr_fread {l : List Fld} (h : rightF l = true) (V : View) : ACalls Try.prog 31 [.tree 1 (byT (recF l))] V (One (.tuple [.tree 2 (flT l), iv 0, iv 0]) V) := by
  obtain ⟨hl, hf⟩ := recF_len l h
  have hsz : ((recF l).length : Int) ≤ 16384 + 4 * l.length := by
    simp only [rightF, Bool.and_eq_true] at h
    have := recF_size l 0 16384 (by omega) h.1
    split at this <;> omega
  have hgo : rightGo 0 16384 l = true := by simp only [rightF, Bool.and_eq_true] at h; exact h.1
  refine a_fn (fn := Try.f31) Try.func31 rfl ?_ rfl
  refine a_seq (a_region ?_)
  refine a_v rfl (s_assign ev_c) ?_
  refine a_v rfl (s_assign ev_c) ?_
  refine a_v rfl (s_assign ev_c) ?_
  refine a_nil ?_
  refine a_scope ?_
  refine a_seq (a_seq (a_region ?_))
  refine a_v rfl (s_move (ev_t rfl)) ?_
  refine a_v rfl (s_leny Try.us39 (ev_t rfl)) ?_
  refine a_v rfl (s_cmp (ev_t rfl) ev_c rfl) ?_
  refine a_nil ?_
  refine a_cond (ev_t rfl) (fun hc => ?_) (fun hc => a_skip ?_)
  · exfalso; simp at hc; omega
  refine a_seq (a_region ?_)
  refine a_vp rfl (s_alloc Try.z89) fun xv Vv hx => ?_
  obtain ⟨b5, nb5, rfl, rfl⟩ := hx
  have vb5 : V b5 = none := by simpa [View.set, ] using nb5
  refine a_nil ?_
  refine a_seq (a_region ?_)
  refine a_vp rfl (s_alloc Try.z3) fun xv Vv hx => ?_
  obtain ⟨b6, nb6, rfl, rfl⟩ := hx
  have eb6b5 : ¬ b6 = b5 := by rintro rfl; simp [View.set, vb5] at nb6
  have eb6b5' : ¬ b5 = b6 := fun h => eb6b5 h.symm
  have vb6 : V b6 = none := by simpa [View.set, vb5, eb6b5, eb6b5'] using nb6
  refine a_vp rfl (s_alloc Try.z3) fun xv Vv hx => ?_
  obtain ⟨b7, nb7, rfl, rfl⟩ := hx
  have eb7b5 : ¬ b7 = b5 := by rintro rfl; simp [View.set, vb5, eb6b5, eb6b5', vb6] at nb7
  have eb7b5' : ¬ b5 = b7 := fun h => eb7b5 h.symm
  have eb7b6 : ¬ b7 = b6 := by rintro rfl; simp [View.set, vb5, eb6b5, eb6b5', vb6, eb7b5, eb7b5'] at nb7
  have eb7b6' : ¬ b6 = b7 := fun h => eb7b6 h.symm
  have vb7 : V b7 = none := by simpa [View.set, vb5, eb6b5, eb6b5', vb6, eb7b5, eb7b5', eb7b6, eb7b6'] using nb7
  refine a_vp rfl (s_alloc Try.z3) fun xv Vv hx => ?_
  obtain ⟨b8, nb8, rfl, rfl⟩ := hx
  have eb8b5 : ¬ b8 = b5 := by rintro rfl; simp [View.set, vb5, eb6b5, eb6b5', vb6, eb7b5, eb7b5', eb7b6, eb7b6', vb7] at nb8
  have eb8b5' : ¬ b5 = b8 := fun h => eb8b5 h.symm
  have eb8b6 : ¬ b8 = b6 := by rintro rfl; simp [View.set, vb5, eb6b5, eb6b5', vb6, eb7b5, eb7b5', eb7b6, eb7b6', vb7, eb8b5, eb8b5'] at nb8
  have eb8b6' : ¬ b6 = b8 := fun h => eb8b6 h.symm
  have eb8b7 : ¬ b8 = b7 := by rintro rfl; simp [View.set, vb5, eb6b5, eb6b5', vb6, eb7b5, eb7b5', eb7b6, eb7b6', vb7, eb8b5, eb8b5', eb8b6, eb8b6'] at nb8
  have eb8b7' : ¬ b7 = b8 := fun h => eb8b7 h.symm
  have vb8 : V b8 = none := by simpa [View.set, vb5, eb6b5, eb6b5', vb6, eb7b5, eb7b5', eb7b6, eb7b6', vb7, eb8b5, eb8b5', eb8b6, eb8b6', eb8b7, eb8b7'] using nb8
  refine a_s (s_store Try.sh3 (ev_t rfl) ev_c (by simp [View.set, View.drop, vb5, eb6b5, eb6b5', vb6, eb7b5, eb7b5', eb7b6, eb7b6', vb7, eb8b5, eb8b5', eb8b6, eb8b6', eb8b7, eb8b7', vb8] <;> first | exact ⟨rfl, rfl⟩ | exact rfl) rfl rfl (by first | decide | (simp; done) | (simp; omega))) ?_
  refine a_s (s_store Try.sh3 (ev_t rfl) ev_c (by simp [View.set, View.drop, vb5, eb6b5, eb6b5', vb6, eb7b5, eb7b5', eb7b6, eb7b6', vb7, eb8b5, eb8b5', eb8b6, eb8b6', eb8b7, eb8b7', vb8] <;> first | exact ⟨rfl, rfl⟩ | exact rfl) rfl rfl (by first | decide | (simp; done) | (simp; omega))) ?_
  refine a_s (s_store Try.sh3 (ev_t rfl) ev_c (by simp [View.set, View.drop, vb5, eb6b5, eb6b5', vb6, eb7b5, eb7b5', eb7b6, eb7b6', vb7, eb8b5, eb8b5', eb8b6, eb8b6', eb8b7, eb8b7', vb8] <;> first | exact ⟨rfl, rfl⟩ | exact rfl) rfl rfl (by first | decide | (simp; done) | (simp; omega))) ?_
  refine a_nil ?_
  refine a_seq (a_label ?_)
  refine a_seq (a_seq (a_region ?_))
  refine a_v rfl (s_move (ev_t rfl)) ?_
  refine a_vp rfl (s_call Try.okF55 ev_f (.cons (ev_t rfl) .nil) (fr_fields0 _ _)) fun xv Vv hx => ?_
  obtain ⟨b1, nb1, rfl, rfl⟩ := hx
  refine a_nil ?_
  have eb1b5 : ¬ b1 = b5 := by rintro rfl; simp [View.set, vb5, eb6b5, eb6b5', vb6, eb7b5, eb7b5', eb7b6, eb7b6', vb7, eb8b5, eb8b5', eb8b6, eb8b6', eb8b7, eb8b7', vb8] at nb1
  have eb1b5' : ¬ b5 = b1 := fun h => eb1b5 h.symm
  have eb1b6 : ¬ b1 = b6 := by rintro rfl; simp [View.set, vb5, eb6b5, eb6b5', vb6, eb7b5, eb7b5', eb7b6, eb7b6', vb7, eb8b5, eb8b5', eb8b6, eb8b6', eb8b7, eb8b7', vb8, eb1b5, eb1b5'] at nb1
  have eb1b6' : ¬ b6 = b1 := fun h => eb1b6 h.symm
  have eb1b7 : ¬ b1 = b7 := by rintro rfl; simp [View.set, vb5, eb6b5, eb6b5', vb6, eb7b5, eb7b5', eb7b6, eb7b6', vb7, eb8b5, eb8b5', eb8b6, eb8b6', eb8b7, eb8b7', vb8, eb1b5, eb1b5', eb1b6, eb1b6'] at nb1
  have eb1b7' : ¬ b7 = b1 := fun h => eb1b7 h.symm
  have eb1b8 : ¬ b1 = b8 := by rintro rfl; simp [View.set, vb5, eb6b5, eb6b5', vb6, eb7b5, eb7b5', eb7b6, eb7b6', vb7, eb8b5, eb8b5', eb8b6, eb8b6', eb8b7, eb8b7', vb8, eb1b5, eb1b5', eb1b6, eb1b6', eb1b7, eb1b7'] at nb1
  have eb1b8' : ¬ b8 = b1 := fun h => eb1b8 h.symm
  have vb1 : V b1 = none := by simpa [View.set, vb5, eb6b5, eb6b5', vb6, eb7b5, eb7b5', eb7b6, eb7b6', vb7, eb8b5, eb8b5', eb8b6, eb8b6', eb8b7, eb8b7', vb8, eb1b5, eb1b5', eb1b6, eb1b6', eb1b7, eb1b7', eb1b8, eb1b8'] using nb1
  refine a_block ?_
  refine a_range (fs := []) (cap := [_]) Try.okF69 (ev_t rfl) fun L nL => ?_
  generalize hlo : AObj.loop LoopState.ready none _ _ _ _ = lo
  have eLb5 : ¬ L = b5 := by rintro rfl; simp [View.set, vb5, eb6b5, eb6b5', vb6, eb7b5, eb7b5', eb7b6, eb7b6', vb7, eb8b5, eb8b5', eb8b6, eb8b6', eb8b7, eb8b7', vb8, eb1b5, eb1b5', eb1b6, eb1b6', eb1b7, eb1b7', eb1b8, eb1b8', vb1] at nL
  have eLb5' : ¬ b5 = L := fun h => eLb5 h.symm
  have eLb6 : ¬ L = b6 := by rintro rfl; simp [View.set, vb5, eb6b5, eb6b5', vb6, eb7b5, eb7b5', eb7b6, eb7b6', vb7, eb8b5, eb8b5', eb8b6, eb8b6', eb8b7, eb8b7', vb8, eb1b5, eb1b5', eb1b6, eb1b6', eb1b7, eb1b7', eb1b8, eb1b8', vb1, eLb5, eLb5'] at nL
  have eLb6' : ¬ b6 = L := fun h => eLb6 h.symm
  have eLb7 : ¬ L = b7 := by rintro rfl; simp [View.set, vb5, eb6b5, eb6b5', vb6, eb7b5, eb7b5', eb7b6, eb7b6', vb7, eb8b5, eb8b5', eb8b6, eb8b6', eb8b7, eb8b7', vb8, eb1b5, eb1b5', eb1b6, eb1b6', eb1b7, eb1b7', eb1b8, eb1b8', vb1, eLb5, eLb5', eLb6, eLb6'] at nL
  have eLb7' : ¬ b7 = L := fun h => eLb7 h.symm
  have eLb8 : ¬ L = b8 := by rintro rfl; simp [View.set, vb5, eb6b5, eb6b5', vb6, eb7b5, eb7b5', eb7b6, eb7b6', vb7, eb8b5, eb8b5', eb8b6, eb8b6', eb8b7, eb8b7', vb8, eb1b5, eb1b5', eb1b6, eb1b6', eb1b7, eb1b7', eb1b8, eb1b8', vb1, eLb5, eLb5', eLb6, eLb6', eLb7, eLb7'] at nL
  have eLb8' : ¬ b8 = L := fun h => eLb8 h.symm
  have eLb1 : ¬ L = b1 := by rintro rfl; simp [View.set, vb5, eb6b5, eb6b5', vb6, eb7b5, eb7b5', eb7b6, eb7b6', vb7, eb8b5, eb8b5', eb8b6, eb8b6', eb8b7, eb8b7', vb8, eb1b5, eb1b5', eb1b6, eb1b6', eb1b7, eb1b7', eb1b8, eb1b8', vb1, eLb5, eLb5', eLb6, eLb6', eLb7, eLb7', eLb8, eLb8'] at nL
  have eLb1' : ¬ b1 = L := fun h => eLb1 h.symm
  have vL : V L = none := by simpa [View.set, vb5, eb6b5, eb6b5', vb6, eb7b5, eb7b5', eb7b6, eb7b6', vb7, eb8b5, eb8b5', eb8b6, eb8b6', eb8b7, eb8b7', vb8, eb1b5, eb1b5', eb1b6, eb1b6', eb1b7, eb1b7', eb1b8, eb1b8', vb1, eLb5, eLb5', eLb6, eLb6', eLb7, eLb7', eLb8, eLb8', eLb1, eLb1'] using nL
  refine fr_fields1 (b := recF l) (fun at' V₁ => ∃ (i : Nat) (x : AVal) (V₂ : View) (last left : Int), i ≤ l.length ∧ at' = (recF (l.take i)).length ∧ Acc V₁ x 2 i ((flT (l.take i)).flatMap AVal.cells) V₂ ∧ rightGo last left (l.drop i) = true ∧ left ≤ 16384 ∧ -1000 ≤ left ∧
    V₂ L = some lo ∧ V₂ b5 = some (.row [x]) ∧ V₂ b6 = some (.row [iv last]) ∧ V₂ b7 = some (.row [iv left]) ∧ V₂ b8 = some (.row [iv (-1)]) ∧ V₂ b1 = some (.row [.tree 1 (byT (recF l))]) ∧ View.le V V₂) (by omega) ?_ ?_ ?_ ?_
  · simp [View.set, vb5, eb6b5, eb6b5', vb6, eb7b5, eb7b5', eb7b6, eb7b6', vb7, eb8b5, eb8b5', eb8b6, eb8b6', eb8b7, eb8b7', vb8, eb1b5, eb1b5', eb1b6, eb1b6', eb1b7, eb1b7', eb1b8, eb1b8', vb1, eLb5, eLb5', eLb6, eLb6', eLb7, eLb7', eLb8, eLb8', eLb1, eLb1', vL]
  · refine ⟨0, .v (.slice none 0 0), _, 0, 16384, by omega, by simp [recF], accNil, hgo, by omega, by omega, View.set_same _ _ _, ?_, ?_, ?_, ?_, ?_, ?_⟩
    all_goals first | (simp [View.set, vb5, eb6b5, eb6b5', vb6, eb7b5, eb7b5', eb7b6, eb7b6', vb7, eb8b5, eb8b5', eb8b6, eb8b6', eb8b7, eb8b7', vb8, eb1b5, eb1b5', eb1b6, eb1b6', eb1b7, eb1b7', eb1b8, eb1b8', vb1, eLb5, eLb5', eLb6, eLb6', eLb7, eLb7', eLb8, eLb8', eLb1, eLb1', vL]; done) | (simp [View.set, vb5, eb6b5, eb6b5', vb6, eb7b5, eb7b5', eb7b6, eb7b6', vb7, eb8b5, eb8b5', eb8b6, eb8b6', eb8b7, eb8b7', vb8, eb1b5, eb1b5', eb1b6, eb1b6', eb1b7, eb1b7', eb1b8, eb1b8', vb1, eLb5, eLb5', eLb6, eLb6', eLb7, eLb7', eLb8, eLb8', eLb1, eLb1', vL]; rfl) | skip
    repeat refine View.le_set ?_ (by assumption)
    exact View.le_refl _
  · rintro at' V₁ hat ⟨i, x, V₂, last, left, hi, rfl, A1, hg, hl1, hl0, k0, k5, k6, k7, k8, k1, kl⟩ -
    have hi' : i < l.length := by
      rcases Nat.lt_or_ge i l.length with h | h
      · exact h
      · rw [List.take_of_length_le h] at hat; omega
    have hfi := hf _ (List.getElem_mem hi')
    have hrd := fieldG_rec hi' hfi
    rw [recF_at, hrd]
    rw [List.drop_eq_getElem_cons hi', rightGo] at hg
    split at hg
    · cases hg
    rename_i hz
    have g0 := accLe A1 _ _ k0
    have g1 := accLe A1 _ _ k1
    have g5 := accLe A1 _ _ k5
    have g6 := accLe A1 _ _ k6
    have g7 := accLe A1 _ _ k7
    have g8 := accLe A1 _ _ k8
    refine a_round (pend := none) (by rw [g0, ← hlo]) rfl rfl ?_
    refine a_seq (a_region ?_)
    refine a_v rfl (s_assign (ev_t rfl)) ?_
    refine a_nil ?_
    refine a_region ?_
    refine a_vp rfl (s_alloc Try.z100) fun xv Vv hx => ?_
    obtain ⟨b10, nb10, rfl, rfl⟩ := hx
    have eb10L : ¬ b10 = L := by rintro rfl; simp [View.set, g0, g1, g5, g6, g7, g8, eb6b5, eb6b5', eb7b5, eb7b5', eb7b6, eb7b6', eb8b5, eb8b5', eb8b6, eb8b6', eb8b7, eb8b7', eb1b5, eb1b5', eb1b6, eb1b6', eb1b7, eb1b7', eb1b8, eb1b8', eLb5, eLb5', eLb6, eLb6', eLb7, eLb7', eLb8, eLb8', eLb1, eLb1'] at nb10
    have eb10L' : ¬ L = b10 := fun h => eb10L h.symm
    have eb10b5 : ¬ b10 = b5 := by rintro rfl; simp [View.set, g0, g1, g5, g6, g7, g8, eb6b5, eb6b5', eb7b5, eb7b5', eb7b6, eb7b6', eb8b5, eb8b5', eb8b6, eb8b6', eb8b7, eb8b7', eb1b5, eb1b5', eb1b6, eb1b6', eb1b7, eb1b7', eb1b8, eb1b8', eLb5, eLb5', eLb6, eLb6', eLb7, eLb7', eLb8, eLb8', eLb1, eLb1', eb10L, eb10L'] at nb10
    have eb10b5' : ¬ b5 = b10 := fun h => eb10b5 h.symm
    have eb10b6 : ¬ b10 = b6 := by rintro rfl; simp [View.set, g0, g1, g5, g6, g7, g8, eb6b5, eb6b5', eb7b5, eb7b5', eb7b6, eb7b6', eb8b5, eb8b5', eb8b6, eb8b6', eb8b7, eb8b7', eb1b5, eb1b5', eb1b6, eb1b6', eb1b7, eb1b7', eb1b8, eb1b8', eLb5, eLb5', eLb6, eLb6', eLb7, eLb7', eLb8, eLb8', eLb1, eLb1', eb10L, eb10L', eb10b5, eb10b5'] at nb10
    have eb10b6' : ¬ b6 = b10 := fun h => eb10b6 h.symm
    have eb10b7 : ¬ b10 = b7 := by rintro rfl; simp [View.set, g0, g1, g5, g6, g7, g8, eb6b5, eb6b5', eb7b5, eb7b5', eb7b6, eb7b6', eb8b5, eb8b5', eb8b6, eb8b6', eb8b7, eb8b7', eb1b5, eb1b5', eb1b6, eb1b6', eb1b7, eb1b7', eb1b8, eb1b8', eLb5, eLb5', eLb6, eLb6', eLb7, eLb7', eLb8, eLb8', eLb1, eLb1', eb10L, eb10L', eb10b5, eb10b5', eb10b6, eb10b6'] at nb10
    have eb10b7' : ¬ b7 = b10 := fun h => eb10b7 h.symm
    have eb10b8 : ¬ b10 = b8 := by rintro rfl; simp [View.set, g0, g1, g5, g6, g7, g8, eb6b5, eb6b5', eb7b5, eb7b5', eb7b6, eb7b6', eb8b5, eb8b5', eb8b6, eb8b6', eb8b7, eb8b7', eb1b5, eb1b5', eb1b6, eb1b6', eb1b7, eb1b7', eb1b8, eb1b8', eLb5, eLb5', eLb6, eLb6', eLb7, eLb7', eLb8, eLb8', eLb1, eLb1', eb10L, eb10L', eb10b5, eb10b5', eb10b6, eb10b6', eb10b7, eb10b7'] at nb10
    have eb10b8' : ¬ b8 = b10 := fun h => eb10b8 h.symm
    have eb10b1 : ¬ b10 = b1 := by rintro rfl; simp [View.set, g0, g1, g5, g6, g7, g8, eb6b5, eb6b5', eb7b5, eb7b5', eb7b6, eb7b6', eb8b5, eb8b5', eb8b6, eb8b6', eb8b7, eb8b7', eb1b5, eb1b5', eb1b6, eb1b6', eb1b7, eb1b7', eb1b8, eb1b8', eLb5, eLb5', eLb6, eLb6', eLb7, eLb7', eLb8, eLb8', eLb1, eLb1', eb10L, eb10L', eb10b5, eb10b5', eb10b6, eb10b6', eb10b7, eb10b7', eb10b8, eb10b8'] at nb10
    have eb10b1' : ¬ b1 = b10 := fun h => eb10b1 h.symm
    have vb10 : V₁ b10 = none := by simpa [View.set, g0, g1, g5, g6, g7, g8, eb6b5, eb6b5', eb7b5, eb7b5', eb7b6, eb7b6', eb8b5, eb8b5', eb8b6, eb8b6', eb8b7, eb8b7', eb1b5, eb1b5', eb1b6, eb1b6', eb1b7, eb1b7', eb1b8, eb1b8', eLb5, eLb5', eLb6, eLb6', eLb7, eLb7', eLb8, eLb8', eLb1, eLb1', eb10L, eb10L', eb10b5, eb10b5', eb10b6, eb10b6', eb10b7, eb10b7', eb10b8, eb10b8', eb10b1, eb10b1'] using nb10
    refine a_s (s_storew Try.sh100 (ev_t rfl) (ev_t rfl) (by simp [View.set, View.drop, g0, g1, g5, g6, g7, g8, eb6b5, eb6b5', eb7b5, eb7b5', eb7b6, eb7b6', eb8b5, eb8b5', eb8b6, eb8b6', eb8b7, eb8b7', eb1b5, eb1b5', eb1b6, eb1b6', eb1b7, eb1b7', eb1b8, eb1b8', eLb5, eLb5', eLb6, eLb6', eLb7, eLb7', eLb8, eLb8', eLb1, eLb1', eb10L, eb10L', eb10b5, eb10b5', eb10b6, eb10b6', eb10b7, eb10b7', eb10b8, eb10b8', eb10b1, eb10b1', vb10] <;> first | exact ⟨rfl, rfl⟩ | exact rfl) rfl rfl (by first | decide | (simp; done) | (simp; omega)) (cs' := [iv (l[i]).1, .tree 1 (byT (l[i]).2)]) rfl) ?_
    refine a_nil ?_
    have A2 := accUpd (b := b10) (Acc.set A1 (.row ((Value.agg #[.int .i64 0, .slice none 0 0]).cells.toList.map AVal.v)) nb10) (.row [iv (l[i]).1, .tree 1 (byT (l[i]).2)]) (View.set_same _ _ _)
    have v2 := Acc.none A1 nb10
    refine ⟨by simp [View.set, g0, eb6b5, eb6b5', eb7b5, eb7b5', eb7b6, eb7b6', eb8b5, eb8b5', eb8b6, eb8b6', eb8b7, eb8b7', eb1b5, eb1b5', eb1b6, eb1b6', eb1b7, eb1b7', eb1b8, eb1b8', eLb5, eLb5', eLb6, eLb6', eLb7, eLb7', eLb8, eLb8', eLb1, eLb1', eb10L, eb10L', eb10b5, eb10b5', eb10b6, eb10b6', eb10b7, eb10b7', eb10b8, eb10b8', eb10b1, eb10b1']; exact hlo.symm, ?_⟩
    generalize hlb : AObj.loop LoopState.busy none _ _ _ _ = lb
    have A3 := accUpd (b := L) A2 lb (o' := lo) (by simp [View.set, k0, eb6b5, eb6b5', eb7b5, eb7b5', eb7b6, eb7b6', eb8b5, eb8b5', eb8b6, eb8b6', eb8b7, eb8b7', eb1b5, eb1b5', eb1b6, eb1b6', eb1b7, eb1b7', eb1b8, eb1b8', eLb5, eLb5', eLb6, eLb6', eLb7, eLb7', eLb8, eLb8', eLb1, eLb1', eb10L, eb10L', eb10b5, eb10b5', eb10b6, eb10b6', eb10b7, eb10b7', eb10b8, eb10b8', eb10b1, eb10b1'])
    refine a_block ?_
    refine a_seq (a_seq (a_region ?_))
    refine a_v rfl (s_fieldAddr Try.f100_0 rfl (ev_t rfl)) ?_
    refine a_v rfl (s_load Try.sh3 (ev_t rfl) (by simp [View.set, View.drop, g0, g1, g5, g6, g7, g8, eb6b5, eb6b5', eb7b5, eb7b5', eb7b6, eb7b6', eb8b5, eb8b5', eb8b6, eb8b6', eb8b7, eb8b7', eb1b5, eb1b5', eb1b6, eb1b6', eb1b7, eb1b7', eb1b8, eb1b8', eLb5, eLb5', eLb6, eLb6', eLb7, eLb7', eLb8, eLb8', eLb1, eLb1', eb10L, eb10L', eb10b5, eb10b5', eb10b6, eb10b6', eb10b7, eb10b7', eb10b8, eb10b8', eb10b1, eb10b1', vb10] <;> first | exact ⟨rfl, rfl⟩ | exact rfl) rfl) ?_
    refine a_v rfl (s_load Try.sh3 (ev_t rfl) (by simp [View.set, View.drop, g0, g1, g5, g6, g7, g8, eb6b5, eb6b5', eb7b5, eb7b5', eb7b6, eb7b6', eb8b5, eb8b5', eb8b6, eb8b6', eb8b7, eb8b7', eb1b5, eb1b5', eb1b6, eb1b6', eb1b7, eb1b7', eb1b8, eb1b8', eLb5, eLb5', eLb6, eLb6', eLb7, eLb7', eLb8, eLb8', eLb1, eLb1', eb10L, eb10L', eb10b5, eb10b5', eb10b6, eb10b6', eb10b7, eb10b7', eb10b8, eb10b8', eb10b1, eb10b1', vb10] <;> first | exact ⟨rfl, rfl⟩ | exact rfl) rfl) ?_
    refine a_v rfl (s_cmp (ev_t rfl) (ev_t rfl) rfl) ?_
    refine a_v rfl (s_move (ev_t rfl)) ?_
    refine a_f rfl (f_guard rfl (gd_b rfl (ev_t rfl)) fun h4 => s_fieldAddr Try.f100_0 rfl (ev_t rfl)) ?_
    refine a_f rfl (f_guard rfl (gd_b rfl (ev_t rfl)) fun h4 => s_load Try.sh3 (ev_cond (ev_t rfl) h4) (by simp [View.set, View.drop, g0, g1, g5, g6, g7, g8, eb6b5, eb6b5', eb7b5, eb7b5', eb7b6, eb7b6', eb8b5, eb8b5', eb8b6, eb8b6', eb8b7, eb8b7', eb1b5, eb1b5', eb1b6, eb1b6', eb1b7, eb1b7', eb1b8, eb1b8', eLb5, eLb5', eLb6, eLb6', eLb7, eLb7', eLb8, eLb8', eLb1, eLb1', eb10L, eb10L', eb10b5, eb10b5', eb10b6, eb10b6', eb10b7, eb10b7', eb10b8, eb10b8', eb10b1, eb10b1', vb10] <;> first | exact ⟨rfl, rfl⟩ | exact rfl) rfl) ?_
    refine a_f rfl (f_guard rfl (gd_b rfl (ev_t rfl)) fun h4 => s_cmp (ev_cond (ev_t rfl) h4) ev_c rfl) ?_
    refine a_v rfl (s_pickor (ev_t rfl) (ev_t rfl)) ?_
    refine a_v rfl (s_move (ev_t rfl)) ?_
    refine a_f rfl (f_guard rfl (gd_b rfl (ev_t rfl)) fun h9 => s_fieldAddr Try.f100_1 rfl (ev_t rfl)) ?_
    refine a_f rfl (f_guard rfl (gd_b rfl (ev_t rfl)) fun h9 => s_load Try.sh39 (ev_cond (ev_t rfl) h9) (by simp [View.set, View.drop, g0, g1, g5, g6, g7, g8, eb6b5, eb6b5', eb7b5, eb7b5', eb7b6, eb7b6', eb8b5, eb8b5', eb8b6, eb8b6', eb8b7, eb8b7', eb1b5, eb1b5', eb1b6, eb1b6', eb1b7, eb1b7', eb1b8, eb1b8', eLb5, eLb5', eLb6, eLb6', eLb7, eLb7', eLb8, eLb8', eLb1, eLb1', eb10L, eb10L', eb10b5, eb10b5', eb10b6, eb10b6', eb10b7, eb10b7', eb10b8, eb10b8', eb10b1, eb10b1', vb10] <;> first | exact ⟨rfl, rfl⟩ | exact rfl) rfl) ?_
    refine a_f rfl (f_guard rfl (gd_b rfl (ev_t rfl)) fun h9 => s_leny Try.us39 (ev_cond (ev_t rfl) h9)) ?_
    refine a_f rfl (f_guard rfl (gd_b rfl (ev_t rfl)) fun h9 => s_load Try.sh3 (ev_t rfl) (by simp [View.set, View.drop, g0, g1, g5, g6, g7, g8, eb6b5, eb6b5', eb7b5, eb7b5', eb7b6, eb7b6', eb8b5, eb8b5', eb8b6, eb8b6', eb8b7, eb8b7', eb1b5, eb1b5', eb1b6, eb1b6', eb1b7, eb1b7', eb1b8, eb1b8', eLb5, eLb5', eLb6, eLb6', eLb7, eLb7', eLb8, eLb8', eLb1, eLb1', eb10L, eb10L', eb10b5, eb10b5', eb10b6, eb10b6', eb10b7, eb10b7', eb10b8, eb10b8', eb10b1, eb10b1', vb10] <;> first | exact ⟨rfl, rfl⟩ | exact rfl) rfl) ?_
    refine a_f rfl (f_guard rfl (gd_b rfl (ev_t rfl)) fun h9 => s_cmp (ev_cond (ev_t rfl) h9) (ev_cond (ev_t rfl) h9) rfl) ?_
    refine a_v rfl (s_pickor (ev_t rfl) (ev_t rfl)) ?_
    refine a_v rfl (s_move (ev_t rfl)) ?_
    refine a_f rfl (f_guard rfl (gd_b rfl (ev_t rfl)) fun h16 => s_load Try.sh89 (ev_t rfl) (by simp [View.set, View.drop, g0, g1, g5, g6, g7, g8, eb6b5, eb6b5', eb7b5, eb7b5', eb7b6, eb7b6', eb8b5, eb8b5', eb8b6, eb8b6', eb8b7, eb8b7', eb1b5, eb1b5', eb1b6, eb1b6', eb1b7, eb1b7', eb1b8, eb1b8', eLb5, eLb5', eLb6, eLb6', eLb7, eLb7', eLb8, eLb8', eLb1, eLb1', eb10L, eb10L', eb10b5, eb10b5', eb10b6, eb10b6', eb10b7, eb10b7', eb10b8, eb10b8', eb10b1, eb10b1', vb10] <;> first | exact ⟨rfl, rfl⟩ | exact rfl) rfl) ?_
    refine a_f rfl (f_guard rfl (gd_b rfl (ev_t rfl)) fun h16 => s_lenA Try.us89 (ev_cond (ev_t rfl) h16) (accRow A3)) ?_
    refine a_f rfl (f_guard rfl (gd_b rfl (ev_t rfl)) fun h16 => s_cmp (ev_cond (ev_t rfl) h16) ev_c rfl) ?_
    refine a_v rfl (s_pickor (ev_t rfl) (ev_t rfl)) ?_
    refine a_nil ?_
    refine a_cond (ev_t rfl) (fun hc => ?_) (fun hc => a_skip ?_)
    · exfalso
      simp at hc
      omega
    refine a_seq (a_draw [false, false, false, false, false, false, false, true, true] (_) Try.mixed rfl (by kernel_rfl) (View.drop_le _ b6) ?_)
    refine d_v (fun V' hU => f_plain rfl (s_fieldAddr Try.f100_0 rfl (ev_o rfl rfl))) ?_
    refine d_v (fun V' hU => f_plain rfl (s_load Try.sh3 (ev_o rfl rfl) (hU _ _ (by simp [View.set, View.drop, g0, g1, g5, g6, g7, g8, eb6b5, eb6b5', eb7b5, eb7b5', eb7b6, eb7b6', eb8b5, eb8b5', eb8b6, eb8b6', eb8b7, eb8b7', eb1b5, eb1b5', eb1b6, eb1b6', eb1b7, eb1b7', eb1b8, eb1b8', eLb5, eLb5', eLb6, eLb6', eLb7, eLb7', eLb8, eLb8', eLb1, eLb1', eb10L, eb10L', eb10b5, eb10b5', eb10b6, eb10b6', eb10b7, eb10b7', eb10b8, eb10b8', eb10b1, eb10b1', vb10] <;> first | exact ⟨rfl, rfl⟩ | exact rfl)) rfl)) ?_
    refine d_v (fun V' hU => f_plain rfl (s_load Try.sh3 (ev_o rfl rfl) (hU _ _ (by simp [View.set, View.drop, g0, g1, g5, g6, g7, g8, eb6b5, eb6b5', eb7b5, eb7b5', eb7b6, eb7b6', eb8b5, eb8b5', eb8b6, eb8b6', eb8b7, eb8b7', eb1b5, eb1b5', eb1b6, eb1b6', eb1b7, eb1b7', eb1b8, eb1b8', eLb5, eLb5', eLb6, eLb6', eLb7, eLb7', eLb8, eLb8', eLb1, eLb1', eb10L, eb10L', eb10b5, eb10b5', eb10b6, eb10b6', eb10b7, eb10b7', eb10b8, eb10b8', eb10b1, eb10b1', vb10] <;> first | exact ⟨rfl, rfl⟩ | exact rfl)) rfl)) ?_
    refine d_v (fun V' hU => f_plain rfl (s_fieldAddr Try.f100_1 rfl (ev_o rfl rfl))) ?_
    refine d_v (fun V' hU => f_plain rfl (s_load Try.sh39 (ev_o rfl rfl) (hU _ _ (by simp [View.set, View.drop, g0, g1, g5, g6, g7, g8, eb6b5, eb6b5', eb7b5, eb7b5', eb7b6, eb7b6', eb8b5, eb8b5', eb8b6, eb8b6', eb8b7, eb8b7', eb1b5, eb1b5', eb1b6, eb1b6', eb1b7, eb1b7', eb1b8, eb1b8', eLb5, eLb5', eLb6, eLb6', eLb7, eLb7', eLb8, eLb8', eLb1, eLb1', eb10L, eb10L', eb10b5, eb10b5', eb10b6, eb10b6', eb10b7, eb10b7', eb10b8, eb10b8', eb10b1, eb10b1', vb10] <;> first | exact ⟨rfl, rfl⟩ | exact rfl)) rfl)) ?_
    refine d_v (fun V' hU => f_plain rfl (s_leny Try.us39 (ev_o rfl rfl))) ?_
    refine d_v (fun V' hU => f_plain rfl (s_sub (ev_o rfl rfl) (ev_o rfl rfl) (by omega) (by omega))) ?_
    first | refine d_b (s_storew Try.sh3 (ev_o rfl rfl) (ev_o rfl rfl) (by simp [View.set, View.drop, g0, g1, g5, g6, g7, g8, eb6b5, eb6b5', eb7b5, eb7b5', eb7b6, eb7b6', eb8b5, eb8b5', eb8b6, eb8b6', eb8b7, eb8b7', eb1b5, eb1b5', eb1b6, eb1b6', eb1b7, eb1b7', eb1b8, eb1b8', eLb5, eLb5', eLb6, eLb6', eLb7, eLb7', eLb8, eLb8', eLb1, eLb1', eb10L, eb10L', eb10b5, eb10b5', eb10b6, eb10b6', eb10b7, eb10b7', eb10b8, eb10b8', eb10b1, eb10b1', vb10] <;> first | exact ⟨rfl, rfl⟩ | exact rfl) rfl rfl (by first | decide | (simp; done) | (simp; omega)) (cs' := [iv (l[i]).1]) rfl) rfl _ (View.le_refl _) ?_ | refine d_e (s_storew Try.sh3 (ev_o rfl rfl) (ev_o rfl rfl) (by simp [View.set, View.drop, g0, g1, g5, g6, g7, g8, eb6b5, eb6b5', eb7b5, eb7b5', eb7b6, eb7b6', eb8b5, eb8b5', eb8b6, eb8b6', eb8b7, eb8b7', eb1b5, eb1b5', eb1b6, eb1b6', eb1b7, eb1b7', eb1b8, eb1b8', eLb5, eLb5', eLb6, eLb6', eLb7, eLb7', eLb8, eLb8', eLb1, eLb1', eb10L, eb10L', eb10b5, eb10b5', eb10b6, eb10b6', eb10b7, eb10b7', eb10b8, eb10b8', eb10b1, eb10b1', vb10] <;> first | exact ⟨rfl, rfl⟩ | exact rfl) rfl rfl (by first | decide | (simp; done) | (simp; omega)) (cs' := [iv (l[i]).1]) rfl) (View.le_set (View.drop_le _ _) (View.drop_same _ _)) ?_
    first | refine d_b (s_storew Try.sh3 (ev_o rfl rfl) (ev_o rfl rfl) (by simp [View.set, View.drop, g0, g1, g5, g6, g7, g8, eb6b5, eb6b5', eb7b5, eb7b5', eb7b6, eb7b6', eb8b5, eb8b5', eb8b6, eb8b6', eb8b7, eb8b7', eb1b5, eb1b5', eb1b6, eb1b6', eb1b7, eb1b7', eb1b8, eb1b8', eLb5, eLb5', eLb6, eLb6', eLb7, eLb7', eLb8, eLb8', eLb1, eLb1', eb10L, eb10L', eb10b5, eb10b5', eb10b6, eb10b6', eb10b7, eb10b7', eb10b8, eb10b8', eb10b1, eb10b1', vb10] <;> first | exact ⟨rfl, rfl⟩ | exact rfl) rfl rfl (by first | decide | (simp; done) | (simp; omega)) (cs' := [iv (left - (l[i]).2.length)]) rfl) rfl _ (View.le_refl _) ?_ | refine d_e (s_storew Try.sh3 (ev_o rfl rfl) (ev_o rfl rfl) (by simp [View.set, View.drop, g0, g1, g5, g6, g7, g8, eb6b5, eb6b5', eb7b5, eb7b5', eb7b6, eb7b6', eb8b5, eb8b5', eb8b6, eb8b6', eb8b7, eb8b7', eb1b5, eb1b5', eb1b6, eb1b6', eb1b7, eb1b7', eb1b8, eb1b8', eLb5, eLb5', eLb6, eLb6', eLb7, eLb7', eLb8, eLb8', eLb1, eLb1', eb10L, eb10L', eb10b5, eb10b5', eb10b6, eb10b6', eb10b7, eb10b7', eb10b8, eb10b8', eb10b1, eb10b1', vb10] <;> first | exact ⟨rfl, rfl⟩ | exact rfl) rfl rfl (by first | decide | (simp; done) | (simp; omega)) (cs' := [iv (left - (l[i]).2.length)]) rfl) (by first | exact View.le_refl _ | assumption) ?_
    refine d_nil ?_
    have A4 := accUpd (b := b6) A3 (.row [iv (l[i]).1]) (o' := .row [iv last]) (by simp [View.set, k6, eb6b5, eb6b5', eb7b5, eb7b5', eb7b6, eb7b6', eb8b5, eb8b5', eb8b6, eb8b6', eb8b7, eb8b7', eb1b5, eb1b5', eb1b6, eb1b6', eb1b7, eb1b7', eb1b8, eb1b8', eLb5, eLb5', eLb6, eLb6', eLb7, eLb7', eLb8, eLb8', eLb1, eLb1', eb10L, eb10L', eb10b5, eb10b5', eb10b6, eb10b6', eb10b7, eb10b7', eb10b8, eb10b8', eb10b1, eb10b1'])
    have A5 := accUpd (b := b7) A4 (.row [iv (left - (l[i]).2.length)]) (o' := .row [iv left]) (by simp [View.set, k7, eb6b5, eb6b5', eb7b5, eb7b5', eb7b6, eb7b6', eb8b5, eb8b5', eb8b6, eb8b6', eb8b7, eb8b7', eb1b5, eb1b5', eb1b6, eb1b6', eb1b7, eb1b7', eb1b8, eb1b8', eLb5, eLb5', eLb6, eLb6', eLb7, eLb7', eLb8, eLb8', eLb1, eLb1', eb10L, eb10L', eb10b5, eb10b5', eb10b6, eb10b6', eb10b7, eb10b7', eb10b8, eb10b8', eb10b1, eb10b1'])
    refine a_draw [false, false, false, false, false, false, false, false, true, true] (_) Try.mixed rfl (by kernel_rfl) (accLe A5) ?_
    refine d_v (fun V' hU => f_plain rfl (s_load Try.sh89 (ev_o rfl rfl) (hU _ _ (by simp [View.set, View.drop, k0, k1, k5, k6, k7, k8, g0, g1, g5, g6, g7, g8, eb6b5, eb6b5', eb7b5, eb7b5', eb7b6, eb7b6', eb8b5, eb8b5', eb8b6, eb8b6', eb8b7, eb8b7', eb1b5, eb1b5', eb1b6, eb1b6', eb1b7, eb1b7', eb1b8, eb1b8', eLb5, eLb5', eLb6, eLb6', eLb7, eLb7', eLb8, eLb8', eLb1, eLb1', eb10L, eb10L', eb10b5, eb10b5', eb10b6, eb10b6', eb10b7, eb10b7', eb10b8, eb10b8', eb10b1, eb10b1'] <;> first | exact ⟨rfl, rfl⟩ | exact rfl)) rfl)) ?_
    refine d_v (fun V' hU => f_plain rfl (s_fieldAddr Try.f100_0 rfl (ev_o rfl rfl))) ?_
    refine d_v (fun V' hU => f_plain rfl (s_load Try.sh3 (ev_o rfl rfl) (hU _ _ (by simp [View.set, View.drop, k0, k1, k5, k6, k7, k8, g0, g1, g5, g6, g7, g8, eb6b5, eb6b5', eb7b5, eb7b5', eb7b6, eb7b6', eb8b5, eb8b5', eb8b6, eb8b6', eb8b7, eb8b7', eb1b5, eb1b5', eb1b6, eb1b6', eb1b7, eb1b7', eb1b8, eb1b8', eLb5, eLb5', eLb6, eLb6', eLb7, eLb7', eLb8, eLb8', eLb1, eLb1', eb10L, eb10L', eb10b5, eb10b5', eb10b6, eb10b6', eb10b7, eb10b7', eb10b8, eb10b8', eb10b1, eb10b1'] <;> first | exact ⟨rfl, rfl⟩ | exact rfl)) rfl)) ?_
    refine d_v (fun V' hU => f_plain rfl (s_fieldAddr Try.f100_1 rfl (ev_o rfl rfl))) ?_
    refine d_v (fun V' hU => f_plain rfl (s_load Try.sh39 (ev_o rfl rfl) (hU _ _ (by simp [View.set, View.drop, k0, k1, k5, k6, k7, k8, g0, g1, g5, g6, g7, g8, eb6b5, eb6b5', eb7b5, eb7b5', eb7b6, eb7b6', eb8b5, eb8b5', eb8b6, eb8b6', eb8b7, eb8b7', eb1b5, eb1b5', eb1b6, eb1b6', eb1b7, eb1b7', eb1b8, eb1b8', eLb5, eLb5', eLb6, eLb6', eLb7, eLb7', eLb8, eLb8', eLb1, eLb1', eb10L, eb10L', eb10b5, eb10b5', eb10b6, eb10b6', eb10b7, eb10b7', eb10b8, eb10b8', eb10b1, eb10b1'] <;> first | exact ⟨rfl, rfl⟩ | exact rfl)) rfl)) ?_
    refine d_v (fun V' hU => f_plain rfl (s_call Try.okF56 ev_f (.cons (ev_o rfl rfl) .nil) (fr_clone (by omega) _))) ?_
    refine d_v (fun V' hU => f_plain rfl (s_build Try.z100 Try.pl100 (.cons (ev_o rfl rfl) (.cons (ev_o rfl rfl) .nil)) rfl)) ?_
    refine d_v (fun V' hU => f_plain rfl (s_litx Try.sl89 Try.z100 rfl rfl (.cons (ev_o rfl rfl) .nil) rfl rfl rfl)) ?_
    refine d_vp (s_acc Try.sl89 Try.src89 Try.z100 rfl Try.by100 (ev_o rfl rfl) A5 (src_one (ev_o rfl rfl) rfl rfl) rfl (by omega) (by omega)) fun xv Vv hx => ?_
    have A55 := hx; refine ⟨accLe A55, ?_⟩
    obtain ⟨u55, rfl, hu55⟩ := accVal A55
    first | refine d_b (s_storew Try.sh89 (ev_o rfl rfl) (ev_o rfl rfl) (accLe A55 b5 (.row [x]) (by simp [View.set, k5, eb6b5, eb6b5', eb7b5, eb7b5', eb7b6, eb7b6', eb8b5, eb8b5', eb8b6, eb8b6', eb8b7, eb8b7', eb1b5, eb1b5', eb1b6, eb1b6', eb1b7, eb1b7', eb1b8, eb1b8', eLb5, eLb5', eLb6, eLb6', eLb7, eLb7', eLb8, eLb8', eLb1, eLb1', eb10L, eb10L', eb10b5, eb10b5', eb10b6, eb10b6', eb10b7, eb10b7', eb10b8, eb10b8', eb10b1, eb10b1'])) hu55 rfl (by first | decide | (simp; done) | (simp; omega)) (cs' := [.v u55]) rfl) rfl _ (View.le_refl _) ?_ | refine d_e (s_storew Try.sh89 (ev_o rfl rfl) (ev_o rfl rfl) (accLe A55 b5 (.row [x]) (by simp [View.set, k5, eb6b5, eb6b5', eb7b5, eb7b5', eb7b6, eb7b6', eb8b5, eb8b5', eb8b6, eb8b6', eb8b7, eb8b7', eb1b5, eb1b5', eb1b6, eb1b6', eb1b7, eb1b7', eb1b8, eb1b8', eLb5, eLb5', eLb6, eLb6', eLb7, eLb7', eLb8, eLb8', eLb1, eLb1', eb10L, eb10L', eb10b5, eb10b5', eb10b6, eb10b6', eb10b7, eb10b7', eb10b8, eb10b8', eb10b1, eb10b1'])) hu55 rfl (by first | decide | (simp; done) | (simp; omega)) (cs' := [.v u55]) rfl) (by first | exact View.le_refl _ | assumption) ?_
    refine d_nil ?_
    have A6 := accUpd (accUpd (b := b5) A55 (.row [.v u55]) (o' := .row [x]) (by simp [View.set, k5, eb6b5, eb6b5', eb7b5, eb7b5', eb7b6, eb7b6', eb8b5, eb8b5', eb8b6, eb8b6', eb8b7, eb8b7', eb1b5, eb1b5', eb1b6, eb1b6', eb1b7, eb1b7', eb1b8, eb1b8', eLb5, eLb5', eLb6, eLb6', eLb7, eLb7', eLb8, eLb8', eLb1, eLb1', eb10L, eb10L', eb10b5, eb10b5', eb10b6, eb10b6', eb10b7, eb10b7', eb10b8, eb10b8', eb10b1, eb10b1'])) lo (b := L) (o' := lb) (by simp [View.set, eb6b5, eb6b5', eb7b5, eb7b5', eb7b6, eb7b6', eb8b5, eb8b5', eb8b6, eb8b6', eb8b7, eb8b7', eb1b5, eb1b5', eb1b6, eb1b6', eb1b7, eb1b7', eb1b8, eb1b8', eLb5, eLb5', eLb6, eLb6', eLb7, eLb7', eLb8, eLb8', eLb1, eLb1', eb10L, eb10L', eb10b5, eb10b5', eb10b6, eb10b6', eb10b7, eb10b7', eb10b8, eb10b8', eb10b1, eb10b1'])
    have g0' := accLe A6 L _ (View.set_same _ _ _)
    have g0b : Vv L = some lb := accLe A55 _ _ (by simp [View.set, eb6b5, eb6b5', eb7b5, eb7b5', eb7b6, eb7b6', eb8b5, eb8b5', eb8b6, eb8b6', eb8b7, eb8b7', eb1b5, eb1b5', eb1b6, eb1b6', eb1b7, eb1b7', eb1b8, eb1b8', eLb5, eLb5', eLb6, eLb6', eLb7, eLb7', eLb8, eLb8', eLb1, eLb1', eb10L, eb10L', eb10b5, eb10b5', eb10b6, eb10b6', eb10b7, eb10b7', eb10b8, eb10b8', eb10b1, eb10b1'])
    have g1' := accLe A6 b1 _ (by simp [View.set, k1, eb6b5, eb6b5', eb7b5, eb7b5', eb7b6, eb7b6', eb8b5, eb8b5', eb8b6, eb8b6', eb8b7, eb8b7', eb1b5, eb1b5', eb1b6, eb1b6', eb1b7, eb1b7', eb1b8, eb1b8', eLb5, eLb5', eLb6, eLb6', eLb7, eLb7', eLb8, eLb8', eLb1, eLb1', eb10L, eb10L', eb10b5, eb10b5', eb10b6, eb10b6', eb10b7, eb10b7', eb10b8, eb10b8', eb10b1, eb10b1'] <;> rfl)
    refine ⟨⟨.busy, none, by simp [View.set, g0b, eb6b5, eb6b5', eb7b5, eb7b5', eb7b6, eb7b6', eb8b5, eb8b5', eb8b6, eb8b6', eb8b7, eb8b7', eb1b5, eb1b5', eb1b6, eb1b6', eb1b7, eb1b7', eb1b8, eb1b8', eLb5, eLb5', eLb6, eLb6', eLb7, eLb7', eLb8, eLb8', eLb1, eLb1', eb10L, eb10L', eb10b5, eb10b5', eb10b6, eb10b6', eb10b7, eb10b7', eb10b8, eb10b8', eb10b1, eb10b1']; exact hlb.symm⟩, by rw [hlo]; exact g1', true, rfl, fun _ => ⟨i + 1, .v u55, _, (l[i]).1, left - (l[i]).2.length, by omega, ?_, by rw [hlo]; exact accCast A6 rfl (by unfold flT; rw [List.take_succ_eq_append_getElem hi', List.map_append, List.flatMap_append]; rfl), hg, by omega, by omega, View.set_same _ _ _, ?_, ?_, ?_, ?_, ?_, ?_⟩, fun h => absurd ⟨rfl, rfl⟩ h⟩
    · rw [recF_take hi']
    all_goals first | (simp [View.set, k1, k5, k6, k7, k8, eb6b5, eb6b5', eb7b5, eb7b5', eb7b6, eb7b6', eb8b5, eb8b5', eb8b6, eb8b6', eb8b7, eb8b7', eb1b5, eb1b5', eb1b6, eb1b6', eb1b7, eb1b7', eb1b8, eb1b8', eLb5, eLb5', eLb6, eLb6', eLb7, eLb7', eLb8, eLb8', eLb1, eLb1', eb10L, eb10L', eb10b5, eb10b5', eb10b6, eb10b6', eb10b7, eb10b7', eb10b8, eb10b8', eb10b1, eb10b1']; done) | skip
    repeat refine View.le_set ?_ (by first | assumption | exact View.le_none kl v2)
    exact kl
  · rintro V₁ ⟨i, x, V₂, last, left, hi, he, A1, hg, hl1, hl0, k0, k5, k6, k7, k8, k1, kl⟩
    have hi' : i = l.length := by
      rcases Nat.lt_or_ge i l.length with h | h
      · exfalso
        have h1 := congrArg List.length (recF_split l i)
        have h2 := congrArg List.length (recF_drop h)
        simp only [List.length_append, List.length_cons] at h1 h2; omega
      · omega
    subst hi'
    rw [List.take_length] at A1
    refine ⟨.ready, none, by rw [accLe A1 _ _ k0, ← hlo], by simp, ?_⟩
    have A2 := accDrop A1 k0
    refine a_acc_row1 A2 rfl (flT_len _) (flT_els _) (b := b5) (N := none) (by simp [View.drop, k5, eb6b5, eb6b5', eb7b5, eb7b5', eb7b6, eb7b6', eb8b5, eb8b5', eb8b6, eb8b6', eb8b7, eb8b7', eb1b5, eb1b5', eb1b6, eb1b6', eb1b7, eb1b7', eb1b8, eb1b8', eLb5, eLb5', eLb6, eLb6', eLb7, eLb7', eLb8, eLb8', eLb1, eLb1']) ?_
    refine a_seq (a_seq (a_region ?_))
    refine a_v rfl (s_load Try.sh3 (ev_t rfl) (by simp [View.set, View.drop, k1, k5, k6, k7, k8, eb6b5, eb6b5', eb7b5, eb7b5', eb7b6, eb7b6', eb8b5, eb8b5', eb8b6, eb8b6', eb8b7, eb8b7', eb1b5, eb1b5', eb1b6, eb1b6', eb1b7, eb1b7', eb1b8, eb1b8', eLb5, eLb5', eLb6, eLb6', eLb7, eLb7', eLb8, eLb8', eLb1, eLb1'] <;> first | exact ⟨rfl, rfl⟩ | exact rfl) rfl) ?_
    refine a_v rfl (s_cmp (ev_t rfl) ev_c rfl) ?_
    refine a_nil ?_
    refine a_cond (ev_t rfl) (fun hc => ?_) (fun hc => a_skip ?_)
    · exfalso; simp at hc
    refine a_seq (a_region ?_)
    refine a_v rfl (s_load Try.sh89 (ev_t rfl) (by simp [View.set, View.drop, k1, k5, k6, k7, k8, eb6b5, eb6b5', eb7b5, eb7b5', eb7b6, eb7b6', eb8b5, eb8b5', eb8b6, eb8b6', eb8b7, eb8b7', eb1b5, eb1b5', eb1b6, eb1b6', eb1b7, eb1b7', eb1b8, eb1b8', eLb5, eLb5', eLb6, eLb6', eLb7, eLb7', eLb8, eLb8', eLb1, eLb1'] <;> first | exact ⟨rfl, rfl⟩ | exact rfl) rfl) ?_
    refine a_v rfl (s_assign (ev_t rfl)) ?_
    refine a_v rfl (s_assign ev_c) ?_
    refine a_v rfl (s_assign ev_c) ?_
    refine a_nil ?_
    refine a_ret ?_
    refine ⟨[_, _, _], V, ⟨_, _, rfl, ev_t rfl, _, _, rfl, ev_t rfl, _, _, rfl, ev_t rfl, rfl⟩, ?_, rfl, rfl⟩
    repeat refine View.le_set ?_ (by assumption)
    exact View.le_drop kl (by assumption)
#print axioms fr_fread
end Go.Proofs
