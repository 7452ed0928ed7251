/- Frames and records: the walk through bytes that come in pieces. -/
import Derived.Test.YtapelipehckbcaaFrL
set_option linter.unusedVariables false
set_option linter.unusedSimpArgs false
namespace Go.AV
theorem cnt_mono (Bs : List (List UInt8)) {j k : Nat} (h : j ≤ k) : cnt Bs j ≤ cnt Bs k ∧ usd Bs j ≤ usd Bs k := by
  obtain ⟨h1, h2⟩ := cnt_split Bs j k h; omega
theorem deadF_mono {wrong : Bool} {Bs : List (List UInt8)} {j k : Nat} (h : j ≤ k) (hd : deadF wrong Bs j = true) : deadF wrong Bs k = true := by
  simp only [deadF, Bool.and_eq_true, decide_eq_true_eq] at hd ⊢
  exact ⟨hd.1, by omega⟩
theorem dead_cnt {wrong : Bool} {Bs : List (List UInt8)} {j : Nat} (hd : deadF wrong Bs j = true) : cnt Bs j = Bs.length ∧ usd Bs j = (frs Bs).length := by
  simp only [deadF, Bool.and_eq_true, decide_eq_true_eq] at hd
  exact cnt_all Bs j (by omega)
/-- What a stream gives for a piece. -/
def gotF (Bs : List (List UInt8)) (j k : Nat) : List (List UInt8) := (Bs.drop (cnt Bs j)).take (cnt Bs k - cnt Bs j)
theorem gotF_len {Bs : List (List UInt8)} {j k : Nat} (h : j ≤ k) : (gotF Bs j k).length = cnt Bs k - cnt Bs j := by
  have h1 := (cnt_le Bs k).1
  have h2 := (cnt_mono Bs h).1
  simp [gotF]; omega
theorem gotF_get {Bs : List (List UInt8)} {j k i : Nat} (h : j ≤ k) (hi : cnt Bs j + i < cnt Bs k) : ∃ (h1 : i < (gotF Bs j k).length) (h2 : cnt Bs j + i < Bs.length), (gotF Bs j k)[i] = Bs[cnt Bs j + i] := by
  have h1 := (cnt_le Bs k).1
  have hl := gotF_len (Bs := Bs) h
  refine ⟨by omega, by omega, ?_⟩
  simp [gotF]
/-- The entries of the map that is asked by whether a stream is dead. -/
def entsM (p q : Bool) (x : Int) : List (Value × AVal) := (if p then [(.bool true, iv 0)] else []) ++ (if q then [(.bool false, iv x)] else [])
theorem entsM_ok (p q : Bool) (x : Int) : ∀ e ∈ entsM p q x, MapKept.IsKey .bool e.1 := by
  intro e he
  cases p <;> cases q <;> simp [entsM] at he
  · subst he; trivial
  · subst he; trivial
  · rcases he with rfl | rfl <;> trivial
theorem entsM_t (q : Bool) (x : Int) : (∀ e ∈ entsM false q x, e.1 ≠ .bool true) ∧ (entsM true q x).Perm (entsM false q x ++ [(.bool true, iv 0)]) := by
  cases q
  · exact ⟨by simp [entsM], List.Perm.refl _⟩
  · exact ⟨by simp [entsM], List.Perm.swap _ _ _⟩
theorem entsM_f (p : Bool) (x : Int) : (∀ e ∈ entsM p false x, e.1 ≠ .bool false) ∧ (entsM p true x).Perm (entsM p false x ++ [(.bool false, iv x)]) := by
  cases p
  · exact ⟨by simp [entsM], List.Perm.refl _⟩
  · exact ⟨by simp [entsM], List.Perm.refl _⟩
end Go.AV
namespace Go.Proofs
open Go.AV
theorem fr_feed2 {wrong : Bool} {Bs : List (List UInt8)} (hB : ∀ B ∈ Bs, B.length ≤ 16384) (hBl : Bs.length ≤ 1000) (hall : (frs Bs ++ behT wrong).length ≤ 100000000) {j n : Nat} (h : j + n ≤ (frs Bs ++ behT wrong).length) {s : Nat} {V V₀ : View}
    (hS : Str V s (if deadF wrong Bs j then [] else heldF Bs (behT wrong) j) (cnt Bs j) (deadF wrong Bs j) V₀) :
    ACalls Try.prog 59 [pt s 0, .tree 1 (byT (((frs Bs ++ behT wrong).take (j + n)).drop j))] V fun r V' => r = .tuple [.tree 1 (bysT (gotF Bs j (j + n))), iv (if deadF wrong Bs (j + n) then 31 else 0)] ∧
      Str V' s (if deadF wrong Bs (j + n) then [] else heldF Bs (behT wrong) (j + n)) (cnt Bs (j + n)) (deadF wrong Bs (j + n)) V₀ := by
  have hcl := cnt_le Bs j
  have hcl2 := cnt_le Bs (j + n)
  have hm := (cnt_mono Bs (Nat.le_add_right j n)).1
  by_cases hd : deadF wrong Bs j = true
  · have hd2 := deadF_mono (Nat.le_add_right j n) hd
    have hc := (dead_cnt hd).1
    have hc2 := (dead_cnt hd2).1
    rw [hd, if_pos rfl] at hS
    refine (fr_feedD hS).mono ?_
    rintro x V' ⟨rfl, rfl⟩
    have hg : gotF Bs j (j + n) = [] := by rw [gotF, hc, hc2]; simp
    rw [hg, hd2, if_pos rfl, if_pos rfl, hc2, ← hc]
    exact ⟨rfl, hS⟩
  · have hd' : deadF wrong Bs j = false := by simpa using hd
    rw [hd'] at hS
    simp only [Bool.false_eq_true, if_false] at hS
    have hl1 : (heldF Bs (behT wrong) j).length + (((frs Bs ++ behT wrong).take (j + n)).drop j).length ≤ 1000000000 := by
      simp only [heldF, List.length_drop, List.length_take]; omega
    refine (fr_feed hS hl1 (by omega)).mono ?_
    rintro x V' ⟨hx, hS'⟩
    have hsp := feed_split (beh wrong) hB h
    have hde := dead_E hB h
    rw [hsp] at hx hS'
    have hgl := gotF_len (Bs := Bs) (Nat.le_add_right j n)
    have hcn : cnt Bs j + (gotF Bs j (j + n)).length = cnt Bs (j + n) := by omega
    simp only at hx hS'
    change x = .tuple [.tree 1 (bysT (gotF Bs j (j + n))), _] at hx
    change (if _ then Str V' s [] (cnt Bs j + (gotF Bs j (j + n)).length) true V₀ else Str V' s (heldF Bs (behT wrong) (j + n)) (cnt Bs j + (gotF Bs j (j + n)).length) false V₀) at hS'
    rw [hcn] at hS'
    by_cases hd2 : deadF wrong Bs (j + n) = true
    · rw [if_pos (hde.2 hd2)] at hx hS'
      rw [hd2]
      simp only [if_true]
      exact ⟨hx, hS'⟩
    · have hd2' : deadF wrong Bs (j + n) = false := by simpa using hd2
      rw [if_neg (fun e => hd2 (hde.1 e))] at hx hS'
      rw [hd2']
      simp only [Bool.false_eq_true, if_false]
      exact ⟨hx, hS'⟩
#print axioms fr_feed2
theorem fr_fed {wrong : Bool} {Bs : List (List UInt8)} {pieces : List UInt8} (hB : ∀ B ∈ Bs, B.length ≤ 16384) (hBl : Bs.length ≤ 1000) (hall : (frs Bs ++ behT wrong).length ≤ 100000000) (hp : pieces.length ≤ 140737488355328) (V : View) :
    ACalls Try.prog 40 [.tree 1 (byT (frs Bs ++ behT wrong)), iv (frs Bs).length, .tree 1 (bysT Bs), .tree 1 (byT pieces), bv wrong] V (One (bv true) V) := by
  obtain ⟨all, hall'⟩ : ∃ a, a = frs Bs ++ behT wrong := ⟨_, rfl⟩
  rw [← hall'] at hall ⊢
  have hfl : (frs Bs).length ≤ all.length := by rw [hall']; simp
  refine a_fn (fn := Try.f40) Try.func40 rfl ?_ rfl
  refine a_seq (a_region ?_)
  refine a_v rfl (s_assign ev_c) ?_
  refine a_nil ?_
  refine a_seq (a_region ?_)
  refine a_vp rfl (s_call Try.okF58 ev_f .nil (fr_new _)) fun xv Vv hx => ?_
  obtain ⟨s, rfl, hS⟩ := hx
  refine a_v rfl (s_assign (ev_t rfl)) ?_
  refine a_nil ?_
  refine a_seq (a_seq (a_region ?_))
  refine a_v rfl (s_move (ev_t rfl)) ?_
  refine a_v rfl (s_pnil Try.up146 (ev_t rfl) (.inl ⟨rfl, rfl⟩)) ?_
  refine a_nil ?_
  refine a_cond (ev_t rfl) (fun hc => ?_) (fun hc => a_skip ?_)
  · exfalso; cases hc
  refine a_seq (a_region ?_)
  refine a_v rfl (s_assign ev_c) ?_
  refine a_v rfl (s_assign ev_c) ?_
  refine a_nil ?_
  refine a_seq (a_seq (a_region ?_))
  refine a_v rfl (s_assign ev_c) ?_
  refine a_v rfl (s_assign ev_c) ?_
  refine a_nil ?_
  refine a_block ?_
  have h00 : cnt Bs 0 = 0 ∧ usd Bs 0 = 0 ∧ deadF wrong Bs 0 = false ∧ heldF Bs (behT wrong) 0 = [] := by
    have h1 := (cnt_le Bs 0).2.1
    have h2 : cnt Bs 0 = 0 := by
      rcases Nat.eq_zero_or_pos (cnt Bs 0) with h | h
      · exact h
      · have h3 := cnt_lt Bs 0 0 h
        have h4 := frs_take h3.1
        have h5 := frameOf_pos (hB _ (List.getElem_mem h3.1))
        omega
    exact ⟨h2, by omega, by simp [deadF], by simp [heldF]⟩
  refine a_loop (fun n st V' => ∃ (i j : Nat) (lt : List (Nat × AVal)), (pieces.length - i) + (all.length - j) = n ∧ j ≤ all.length ∧ i ≤ pieces.length + 1 ∧ (i ≤ pieces.length ∨ j = all.length) ∧ st = ⟨lt, 227⟩ ∧ SubT [(0, .tree 1 (byT all)), (1, iv (frs Bs).length), (2, .tree 1 (bysT Bs)), (3, .tree 1 (byT pieces)), (4, bv wrong), (11, pt s 0), (12, iv (cnt Bs j)), (13, iv (usd Bs j)), (14, iv i), (15, iv j)] lt ∧
    Str V' s (if deadF wrong Bs j then [] else heldF Bs (behT wrong) j) (cnt Bs j) (deadF wrong Bs j) V) ?_ (pieces.length + all.length) _ _ ⟨0, 0, _, by omega, by omega, by omega, .inl (by omega), rfl, ⟨rfl, rfl, rfl, rfl, rfl, rfl, by rw [h00.1]; rfl, by rw [h00.2.1]; rfl, rfl, rfl, trivial⟩, by rw [h00.2.2.1, h00.1]; simpa [h00.2.2.2] using hS⟩
  rintro n₁ st W ⟨i, j, lt, rfl, hj, hi1, hi2, rfl, hs, hS⟩
  refine a_forget hs ?_
  refine a_seq (a_seq (a_region ?_))
  refine a_v rfl (s_move (ev_t rfl)) ?_
  refine a_v rfl (s_move (ev_t rfl)) ?_
  refine a_v rfl (s_leny Try.us39 (ev_t rfl)) ?_
  refine a_v rfl (s_cmp (ev_t rfl) (ev_t rfl) rfl) ?_
  refine a_nil ?_
  refine a_cond (ev_t rfl) (fun hc => a_skip ?_) (fun hc => a_exit ?_)
  · have hj' : j < all.length := by simp at hc; omega
    have hi' : i ≤ pieces.length := by omega
    refine a_seq (a_block ?_)
    refine a_seq (a_region ?_)
    refine a_v rfl (s_move (ev_t rfl)) ?_
    refine a_v rfl (s_leny Try.us39 (ev_t rfl)) ?_
    refine a_v rfl (s_move (ev_t rfl)) ?_
    refine a_v rfl (s_sub (ev_t rfl) (ev_t rfl) (by omega) (by omega)) ?_
    refine a_v rfl (s_assign (ev_t rfl)) ?_
    refine a_nil ?_
    refine a_seq (a_seq (a_region ?_))
    refine a_v rfl (s_move (ev_t rfl)) ?_
    refine a_v rfl (s_move (ev_t rfl)) ?_
    refine a_v rfl (s_leny Try.us39 (ev_t rfl)) ?_
    refine a_v rfl (s_cmp (ev_t rfl) (ev_t rfl) rfl) ?_
    refine a_nil ?_
    refine a_cut1 (fun st V₁ => ∃ (lt : List (Nat × AVal)) (n : Nat), st = ⟨lt, 227⟩ ∧ SubT [(0, .tree 1 (byT all)), (1, iv (frs Bs).length), (2, .tree 1 (bysT Bs)), (3, .tree 1 (byT pieces)), (4, bv wrong), (11, pt s 0), (12, iv (cnt Bs j)), (13, iv (usd Bs j)), (14, iv i), (15, iv j), (16, iv n)] lt ∧ V₁ = W ∧ j + n ≤ all.length ∧ (i < pieces.length ∨ j + n = all.length)) ?_ ?_
    · refine a_cond (ev_t rfl) (fun hc => ?_) (fun hc => a_skip ?_)
      · have hip : i < pieces.length := by simp at hc; omega
        have hb8 := bat_lt pieces (i : Int)
        obtain ⟨q, hq⟩ : ∃ q : Nat, (q : Int) = min ((all.length : Int) - (j : Int)) ((bat pieces (i : Int)).tmod 60) := by
          have := Int.tmod_nonneg (a := bat pieces (i : Int)) 60 hb8.1
          exact ⟨(min ((all.length : Int) - (j : Int)) ((bat pieces (i : Int)).tmod 60)).toNat, by omega⟩
        refine a_region ?_
        refine a_v rfl (s_move (ev_t rfl)) ?_
        refine a_v rfl (s_move (ev_t rfl)) ?_
        refine a_v rfl (s_move (ev_t rfl)) ?_
        refine a_v rfl (s_idxt Try.sl39 (ev_t rfl) (ev_t rfl) (by omega) (byG (by omega))) ?_
        refine a_v rfl (s_loadr Try.sh5 rfl (ev_t rfl) (ref1 rfl)) ?_
        refine a_v rfl (s_convw ⟨_, Try.ui5⟩ Try.ui3 (ev_t rfl) (wrap64_id (by omega) (by omega))) ?_
        refine a_v rfl (s_rem (ev_t rfl) ev_c (by omega)) ?_
        refine a_v rfl (hq.symm ▸ s_min (ev_t rfl) (ev_t rfl)) ?_
        refine a_v rfl (s_assign (ev_t rfl)) ?_
        refine a_nil ?_
        exact ⟨_, q, rfl, ⟨rfl, rfl, rfl, rfl, rfl, rfl, rfl, rfl, rfl, rfl, rfl, trivial⟩, rfl, by omega, .inl hip⟩
      · have hip : ¬ i < pieces.length := by simp at hc; omega
        refine ⟨_, all.length - j, rfl, ⟨rfl, rfl, rfl, rfl, rfl, rfl, rfl, rfl, rfl, rfl, ?_, trivial⟩, rfl, by omega, .inr (by omega)⟩
        rw [show ((all.length - j : Nat) : Int) = (all.length : Int) - (j : Int) by omega]; rfl
    rintro st V₁ ⟨lt, n, rfl, hs, rfl, hjn, hin⟩
    refine a_forget hs ?_
    have hfeed := fr_feed2 hB hBl (by rw [← hall']; exact hall) (n := n) (by rw [← hall']; exact hjn) hS
    rw [← hall'] at hfeed
    refine a_seq (a_region ?_)
    refine a_v rfl (s_move (ev_t rfl)) ?_
    refine a_v rfl (s_move (ev_t rfl)) ?_
    refine a_v rfl (s_move (ev_t rfl)) ?_
    refine a_v rfl (s_move (ev_t rfl)) ?_
    refine a_v rfl (s_move (ev_t rfl)) ?_
    refine a_v rfl (s_add (ev_t rfl) (ev_t rfl) (by omega) (by omega)) ?_
    refine a_v rfl (s_slicety Try.sl39 (ev_t rfl) (bnd_t (ev_t rfl) (n := j) (by omega)) (bnd_t (ev_t rfl) (n := j + n) (by omega)) (by omega) (by omega)) ?_
    refine a_vp rfl (s_call Try.okF59 ev_f (.cons (ev_t rfl) (.cons (ev_t rfl) .nil)) hfeed) fun xv Vv hx => ?_
    obtain ⟨rfl, hS2⟩ := hx
    refine a_v rfl (s_move (ev_t rfl)) ?_
    refine a_v rfl (s_extract (ev_t rfl) rfl) ?_
    refine a_v rfl (s_extract (ev_t rfl) rfl) ?_
    refine a_v rfl (s_assign (ev_t rfl)) ?_
    refine a_v rfl (s_assign (ev_t rfl)) ?_
    refine a_nil ?_
    refine a_seq (a_region ?_)
    refine a_v rfl (s_move (ev_t rfl)) ?_
    refine a_v rfl (s_move (ev_t rfl)) ?_
    refine a_v rfl (s_add (ev_t rfl) (ev_t rfl) (by omega) (by omega)) ?_
    refine a_v rfl (s_assign (ev_t rfl)) ?_
    refine a_nil ?_
    obtain ⟨k, hk⟩ : ∃ k, k = j + n := ⟨_, rfl⟩
    have hk' : (j : Int) + (n : Int) = (k : Int) := by omega
    rw [← hk] at hS2 hjn hin
    rw [← hk, hk']
    have hjk : j ≤ k := by omega
    have hcm := cnt_mono Bs hjk
    have hcl := cnt_le Bs k
    have hcj := cnt_le Bs j
    have hgl := gotF_len (Bs := Bs) hjk
    refine a_seq (a_seq (a_region ?_))
    refine a_v rfl (s_assign ev_c) ?_
    refine a_nil ?_
    refine a_cut1 (fun st V₁ => ∃ (lt : List (Nat × AVal)), st = ⟨lt, 227⟩ ∧ SubT [(0, .tree 1 (byT all)), (1, iv (frs Bs).length), (2, .tree 1 (bysT Bs)), (3, .tree 1 (byT pieces)), (4, bv wrong), (11, pt s 0), (12, iv (cnt Bs k)), (13, iv (usd Bs k)), (14, iv i), (15, iv k), (17, .tree 1 (bysT (gotF Bs j k))), (18, iv (if deadF wrong Bs k then 31 else 0))] lt ∧ Vv = V₁) ?_ ?_
    · refine a_block ?_
      refine a_loop (fun n st V' => ∃ (c : Nat) (lt : List (Nat × AVal)), (cnt Bs k - cnt Bs j) - c = n ∧ c ≤ cnt Bs k - cnt Bs j ∧ st = ⟨lt, 227⟩ ∧ SubT [(0, .tree 1 (byT all)), (1, iv (frs Bs).length), (2, .tree 1 (bysT Bs)), (3, .tree 1 (byT pieces)), (4, bv wrong), (11, pt s 0), (12, iv (cnt Bs j + c : Nat)), (13, iv (frs (Bs.take (cnt Bs j + c))).length), (19, iv c), (14, iv i), (15, iv k), (17, .tree 1 (bysT (gotF Bs j k))), (18, iv (if deadF wrong Bs k then 31 else 0))] lt ∧ Vv = V') ?_ (cnt Bs k - cnt Bs j) _ _
        ⟨0, _, rfl, by omega, rfl, ⟨rfl, rfl, rfl, rfl, rfl, rfl, rfl, by rw [Nat.add_zero, ← hcj.2.2]; rfl, rfl, rfl, rfl, rfl, rfl, trivial⟩, rfl⟩
      rintro n₂ st W₂ ⟨c, lt, rfl, hc, rfl, hs, rfl⟩
      refine a_forget hs ?_
      refine a_seq (a_block ?_)
      refine a_seq (a_region ?_)
      refine a_v rfl (s_assign ev_c) ?_
      refine a_nil ?_
      refine a_seq (a_seq (a_region ?_))
      refine a_v rfl (s_move (ev_t rfl)) ?_
      refine a_v rfl (s_move (ev_t rfl)) ?_
      refine a_v rfl (s_lent Try.us88 (ev_t rfl)) ?_
      refine a_v rfl (s_cmp (ev_t rfl) (ev_t rfl) rfl) ?_
      refine a_nil ?_
      refine a_cut1 (fun st V₁ => ∃ (lt : List (Nat × AVal)) (z : Nat), st = ⟨lt, 227⟩ ∧ SubT [(0, .tree 1 (byT all)), (1, iv (frs Bs).length), (2, .tree 1 (bysT Bs)), (3, .tree 1 (byT pieces)), (4, bv wrong), (11, pt s 0), (12, iv (cnt Bs j + c : Nat)), (13, iv (frs (Bs.take (cnt Bs j + c))).length), (19, iv c), (20, iv z), (14, iv i), (15, iv k), (17, .tree 1 (bysT (gotF Bs j k))), (18, iv (if deadF wrong Bs k then 31 else 0))] lt ∧ Vv = V₁ ∧ z ≤ 20000 ∧ (∀ h : cnt Bs j + c < Bs.length, z = (frameOf Bs[cnt Bs j + c]).length)) ?_ ?_
      · refine a_cond (ev_t rfl) (fun hcc => ?_) (fun hcc => a_skip ?_)
        · have hi' : cnt Bs j + c < Bs.length := by simp [bysT_len] at hcc; omega
          have hBw := hB _ (List.getElem_mem hi')
          have hform := form_len (n := (Bs[cnt Bs j + c]).length) (by omega)
          refine a_draw [false, false, false, false, false, false, false, false, false, false, false, false, false, false, false] (_) Try.mixed rfl (by kernel_rfl) (View.le_refl _) ?_
          refine d_v (fun V' hU => f_plain rfl (s_move (ev_o rfl rfl))) ?_
          refine d_v (fun V' hU => f_plain rfl (s_move (ev_o rfl rfl))) ?_
          refine d_v (fun V' hU => f_plain rfl (s_idxt Try.sl88 (ev_o rfl rfl) (ev_o rfl rfl) (by omega) (bysG hi'))) ?_
          refine d_v (fun V' hU => f_plain rfl (s_loadr Try.sh39 rfl (ev_o rfl rfl) (refT _ _))) ?_
          refine d_v (fun V' hU => f_plain rfl (s_leny Try.us39 (ev_o rfl rfl))) ?_
          refine d_v (fun V' hU => f_plain rfl (s_move (ev_o rfl rfl))) ?_
          refine d_v (fun V' hU => f_plain rfl (s_move (ev_o rfl rfl))) ?_
          refine d_v (fun V' hU => f_plain rfl (s_idxt Try.sl88 (ev_o rfl rfl) (ev_o rfl rfl) (by omega) (bysG hi'))) ?_
          refine d_v (fun V' hU => f_plain rfl (s_loadr Try.sh39 rfl (ev_o rfl rfl) (refT _ _))) ?_
          refine d_v (fun V' hU => f_plain rfl (s_leny Try.us39 (ev_o rfl rfl))) ?_
          refine d_v (fun V' hU => f_plain rfl (s_convw ⟨_, Try.ui3⟩ Try.ui45 (ev_o rfl rfl) (wrapu64 (by omega) (by omega)))) ?_
          refine d_v (fun V' hU => f_plain rfl (s_call Try.okF9 ev_f (.cons (ev_o rfl rfl) .nil) (fr_formT (by omega) _))) ?_
          refine d_v (fun V' hU => f_plain rfl (s_leny Try.us39 (ev_o rfl rfl))) ?_
          refine d_v (fun V' hU => f_plain rfl (s_add (ev_o rfl rfl) (ev_o rfl rfl) (by omega) (by omega))) ?_
          refine d_v (fun V' hU => f_plain rfl (s_assign (ev_o rfl rfl))) ?_
          refine d_nil ?_
          refine ⟨_, (Bs[cnt Bs j + c]).length + (form (Bs[cnt Bs j + c]).length).length, rfl, ⟨rfl, rfl, rfl, rfl, rfl, rfl, rfl, rfl, rfl, rfl, rfl, rfl, rfl, rfl, trivial⟩, rfl, by omega, fun h => by rw [frameOf_len]; omega⟩
        · have hi' : ¬ cnt Bs j + c < Bs.length := by simp [bysT_len] at hcc; omega
          exact ⟨_, 0, rfl, ⟨rfl, rfl, rfl, rfl, rfl, rfl, rfl, rfl, rfl, rfl, rfl, rfl, rfl, rfl, trivial⟩, rfl, by omega, fun h => absurd h hi'⟩
      rintro st V₁ ⟨lt, z, rfl, hs, rfl, hz0, hz⟩
      refine a_forget hs ?_
      have hzl : z ≤ 100000000 ∧ (frs (Bs.take (cnt Bs j + c))).length ≤ 100000000 := by
        have h1 := congrArg List.length (frs_split Bs (cnt Bs j + c))
        simp only [List.length_append] at h1
        exact ⟨by omega, by omega⟩
      refine a_seq (a_seq (a_region ?_))
      refine a_v rfl (s_move (ev_t rfl)) ?_
      refine a_v rfl (s_move (ev_t rfl)) ?_
      refine a_v rfl (s_lent Try.us88 (ev_t rfl)) ?_
      refine a_v rfl (s_cmp (ev_t rfl) (ev_t rfl) rfl) ?_
      refine a_v rfl (s_move (ev_t rfl)) ?_
      refine a_f rfl (f_guard rfl (gd_b rfl (ev_t rfl)) fun h4 => s_move (ev_t rfl)) ?_
      refine a_f rfl (f_guard rfl (gd_b rfl (ev_t rfl)) fun h4 => s_move (ev_t rfl)) ?_
      refine a_f rfl (f_guard rfl (gd_b rfl (ev_t rfl)) fun h4 => s_add (ev_cond (ev_t rfl) h4) (ev_cond (ev_t rfl) h4) (by omega) (by omega)) ?_
      refine a_f rfl (f_guard rfl (gd_b rfl (ev_t rfl)) fun h4 => s_move (ev_t rfl)) ?_
      refine a_f rfl (f_guard rfl (gd_b rfl (ev_t rfl)) fun h4 => s_cmp (ev_cond (ev_t rfl) h4) (ev_cond (ev_t rfl) h4) rfl) ?_
      refine a_v rfl (s_pickor (ev_t rfl) (ev_t rfl)) ?_
      refine a_nil ?_
      have hend : cnt Bs j + c = cnt Bs k → (cnt Bs j + c = Bs.length ∨ (frs (Bs.take (cnt Bs j + c))).length + z > k) := by
        intro he
        rcases Nat.lt_or_ge (cnt Bs j + c) Bs.length with h | h
        · right
          have h1 := cnt_end Bs k (by omega)
          rw [← he, frs_take h] at h1
          have := hz h; omega
        · left; omega
      have hmid : cnt Bs j + c < cnt Bs k → cnt Bs j + c < Bs.length ∧ (frs (Bs.take (cnt Bs j + c))).length + z ≤ k := by
        intro he
        have h1 := cnt_lt Bs k _ he
        rw [frs_take h1.1] at h1
        have := hz h1.1; omega
      refine a_cut1 (fun st V₁ => cnt Bs j + c < cnt Bs k ∧ ∃ (lt : List (Nat × AVal)), st = ⟨lt, 227⟩ ∧ SubT [(0, .tree 1 (byT all)), (1, iv (frs Bs).length), (2, .tree 1 (bysT Bs)), (3, .tree 1 (byT pieces)), (4, bv wrong), (11, pt s 0), (12, iv (cnt Bs j + c : Nat)), (13, iv (frs (Bs.take (cnt Bs j + c))).length), (19, iv c), (20, iv z), (14, iv i), (15, iv k), (17, .tree 1 (bysT (gotF Bs j k))), (18, iv (if deadF wrong Bs k then 31 else 0))] lt ∧ Vv = V₁) ?_ ?_
      · refine a_cond (ev_t rfl) (fun hcc => ?_) (fun hcc => a_skip ?_)
        · have he : cnt Bs j + c = cnt Bs k := by
            rcases Nat.lt_or_ge (cnt Bs j + c) (cnt Bs k) with h | h
            · exfalso; have := hmid h; simp [bysT_len] at hcc; omega
            · omega
          refine a_seq (a_seq (a_region ?_))
          refine a_v rfl (s_move (ev_t rfl)) ?_
          refine a_v rfl (s_move (ev_t rfl)) ?_
          refine a_v rfl (s_lent Try.us88 (ev_t rfl)) ?_
          refine a_v rfl (s_cmp (ev_t rfl) (ev_t rfl) rfl) ?_
          refine a_nil ?_
          refine a_cond (ev_t rfl) (fun hc2 => ?_) (fun hc2 => a_skip ?_)
          · exfalso; simp [bysT_len, hgl] at hc2; omega
          refine a_exit ?_
          repeat first | refine thenA_x ?_ | refine blockA_hit ?_ | refine blockA_x (by decide) ?_
          refine ⟨_, rfl, ⟨rfl, rfl, rfl, rfl, rfl, rfl, by rw [← he]; rfl, by rw [hcl.2.2, ← he]; rfl, rfl, rfl, rfl, rfl, trivial⟩, rfl⟩
        · have he : cnt Bs j + c < cnt Bs k := by
            rcases Nat.lt_or_ge (cnt Bs j + c) (cnt Bs k) with h | h
            · exact h
            · exfalso; have := hend (by omega); simp [bysT_len] at hcc; omega
          exact ⟨he, _, rfl, ⟨rfl, rfl, rfl, rfl, rfl, rfl, rfl, rfl, rfl, rfl, rfl, rfl, rfl, rfl, trivial⟩, rfl⟩
      rintro st V₁ ⟨he, lt, rfl, hs, rfl⟩
      refine a_forget hs ?_
      obtain ⟨hk1, hi', hgi⟩ := gotF_get (Bs := Bs) hjk he
      have hm2 := hmid he
      refine a_seq (a_seq (a_draw [false, false, false, false, false, false, false, false, false, false, false, false, false, false, false, false, false] (_) Try.mixed rfl (by kernel_rfl) (View.le_refl _) ?_))
      refine d_v (fun V' hU => f_plain rfl (s_move (ev_o rfl rfl))) ?_
      refine d_v (fun V' hU => f_plain rfl (s_move (ev_o rfl rfl))) ?_
      refine d_v (fun V' hU => f_plain rfl (s_lent Try.us88 (ev_o rfl rfl))) ?_
      refine d_v (fun V' hU => f_plain rfl (s_cmp (ev_o rfl rfl) (ev_o rfl rfl) rfl)) ?_
      refine d_v (fun V' hU => f_plain rfl (s_move (ev_o rfl rfl))) ?_
      refine d_v (fun V' hU => f_guard rfl (gd_b rfl (ev_o rfl rfl)) fun h4 => s_move (ev_o rfl rfl)) ?_
      refine d_v (fun V' hU => f_guard rfl (gd_b rfl (ev_o rfl rfl)) fun h4 => s_move (ev_o rfl rfl)) ?_
      refine d_v (fun V' hU => f_guard rfl (gd_b rfl (ev_o rfl rfl)) fun h4 => s_idxt Try.sl88 (ev_cond (ev_o rfl rfl) h4) (ev_cond (ev_o rfl rfl) h4) (by omega) (bysG hk1)) ?_
      refine d_v (fun V' hU => f_guard rfl (gd_b rfl (ev_o rfl rfl)) fun h4 => s_loadr Try.sh39 rfl (ev_cond (ev_o rfl rfl) h4) (refT _ _)) ?_
      refine d_v (fun V' hU => f_guard rfl (gd_b rfl (ev_o rfl rfl)) fun h4 => s_b2s Try.us39 Try.ui5 Try.ustr9 (ev_cond (ev_o rfl rfl) h4)) ?_
      refine d_v (fun V' hU => f_guard rfl (gd_b rfl (ev_o rfl rfl)) fun h4 => s_move (ev_o rfl rfl)) ?_
      refine d_v (fun V' hU => f_guard rfl (gd_b rfl (ev_o rfl rfl)) fun h4 => s_move (ev_o rfl rfl)) ?_
      refine d_v (fun V' hU => f_guard rfl (gd_b rfl (ev_o rfl rfl)) fun h4 => s_idxt Try.sl88 (ev_cond (ev_o rfl rfl) h4) (ev_cond (ev_o rfl rfl) h4) (by omega) (bysG hi')) ?_
      refine d_v (fun V' hU => f_guard rfl (gd_b rfl (ev_o rfl rfl)) fun h4 => s_loadr Try.sh39 rfl (ev_cond (ev_o rfl rfl) h4) (refT _ _)) ?_
      refine d_v (fun V' hU => f_guard rfl (gd_b rfl (ev_o rfl rfl)) fun h4 => s_b2s Try.us39 Try.ui5 Try.ustr9 (ev_cond (ev_o rfl rfl) h4)) ?_
      refine d_v (fun V' hU => f_guard rfl (gd_b rfl (ev_o rfl rfl)) fun h4 => s_streq (ev_cond (ev_o rfl rfl) h4) (ev_cond (ev_o rfl rfl) h4) (.inr ⟨rfl, rfl⟩)) ?_
      refine d_v (fun V' hU => f_plain rfl (s_pickor (ev_o rfl rfl) (ev_o rfl rfl))) ?_
      refine d_nil ?_
      refine a_cond (ev_t rfl) (fun hcc => ?_) (fun hcc => a_skip ?_)
      · exfalso
        simp [bysT_len, hgi] at hcc
        rcases hcc with h | h
        · omega
        · simp [ba_nself] at h
      refine a_region ?_
      refine a_v rfl (s_move (ev_t rfl)) ?_
      refine a_v rfl (s_add (ev_t rfl) ev_c (by omega) (by omega)) ?_
      refine a_v rfl (s_move (ev_t rfl)) ?_
      refine a_v rfl (s_move (ev_t rfl)) ?_
      refine a_v rfl (s_add (ev_t rfl) (ev_t rfl) (by omega) (by omega)) ?_
      refine a_v rfl (s_assign (ev_t rfl)) ?_
      refine a_v rfl (s_assign (ev_t rfl)) ?_
      refine a_nil ?_
      refine a_region ?_
      refine a_v rfl (s_move (ev_t rfl)) ?_
      refine a_v rfl (s_add (ev_t rfl) ev_c (by omega) (by omega)) ?_
      refine a_v rfl (s_assign (ev_t rfl)) ?_
      refine a_nil ?_
      refine ⟨cnt Bs k - cnt Bs j - (c + 1), by omega, c + 1, _, rfl, by omega, rfl, ⟨rfl, rfl, rfl, rfl, rfl, rfl, rfl, ?_, rfl, rfl, rfl, rfl, rfl, trivial⟩, rfl⟩
      rw [show ((frs (Bs.take (cnt Bs j + (c + 1)))).length : Int) = ((frs (Bs.take (cnt Bs j + c))).length : Int) + (z : Int) by rw [← Nat.add_assoc, frs_take hi', hz hi']; push_cast; rfl]; rfl
    rintro st V₁ ⟨lt, rfl, hs, rfl⟩
    refine a_forget hs ?_
    refine a_seq (a_region ?_)
    refine a_v rfl (s_move (ev_t rfl)) ?_
    refine a_v rfl (s_move (ev_t rfl)) ?_
    refine a_f rfl (f_guard rfl (gd_b rfl (ev_t rfl)) fun h1 => s_move (ev_t rfl)) ?_
    refine a_f rfl (f_guard rfl (gd_b rfl (ev_t rfl)) fun h1 => s_move (ev_t rfl)) ?_
    refine a_f rfl (f_guard rfl (gd_b rfl (ev_t rfl)) fun h1 => s_cmp (ev_cond (ev_t rfl) h1) (ev_cond (ev_t rfl) h1) rfl) ?_
    refine a_v rfl (s_pickand (ev_t rfl) (ev_t rfl)) ?_
    refine a_v rfl (s_assign (ev_t rfl)) ?_
    refine a_nil ?_
    have hd24 : (wrong && decide ((k : Int) > ((frs Bs).length : Int))) = deadF wrong Bs k := by
      simp [deadF]
    rw [hd24]
    have hU := hcl.2.1
    have hheld : (all.take k).drop (usd Bs k) = heldF Bs (behT wrong) k := by rw [hall']; rfl
    have hhl : (heldF Bs (behT wrong) k).length = k - usd Bs k := by rw [← hheld]; simp; omega
    cases hD : deadF wrong Bs k
    · rw [hD] at hS2
      simp only [Bool.false_eq_true, if_false, if_true] at hS2
      obtain ⟨x, V₁, A0, h1, -, -⟩ := id hS2
      have hrow := accLe A0 _ _ h1
      have hR := accRow A0
      have hle : ∀ {b : Nat} {W : View} {p q : Bool}, ((q = false → W = Vv) ∧ (q = true → Vv b = none ∧ ∃ l, W = Vv.set b (.mp l))) → Vv.le W := by
        rintro b W p q ⟨g1, g2⟩
        cases q with
        | false => rw [g1 rfl]; exact View.le_refl _
        | true => obtain ⟨h3, l, rfl⟩ := g2 rfl; exact View.le_self_set h3
      refine a_seq (a_seq (a_any (β := Nat) (fun b j => ([bv false, iv 0, bv false, bv false, bv false, bv false, bv true, bv true, iv 0, bv false, bv false, bv false, bv false, pt s 0, bv false, bv false, bv false, bv false, bv false, pt s 0, iv (cnt Bs k), iv (cnt Bs k), bv false, bv false, bv false, pt s 0, iv (heldF Bs (behT wrong) k).length, .v (.map (some b)), .v undef, iv k, iv (usd Bs k), iv ((k : Int) - (usd Bs k : Int)), .v undef, .v (.map (some b)), bv false, iv ((k : Int) - (usd Bs k : Int)), bv false, bv false] : List AVal).getD j (.v undef)) (fun b L W => (L 27 = false → W = Vv) ∧ (L 27 = true → Vv b = none ∧ W = Vv.set b (.mp (entsM (L 28) (L 32) ((k : Int) - (usd Bs k : Int))))) ∧ (L 28 = true → L 27 = true) ∧ (L 32 = true → L 27 = true) ∧ (L 33 = true → L 27 = true ∧ L 28 = true ∧ L 32 = true)) (0) Try.mixed (by kernel_rfl) ⟨fun _ => rfl, (fun h => by cases h), (fun h => by cases h), (fun h => by cases h), (fun h => by cases h)⟩ ?_ ?_))
      · refine ⟨fun b L W hK hj hw => p_f (f_plain rfl (s_move (ev_t rfl))) ⟨b, fun _ => rfl, fun _ _ => rfl, (by simpa [lset] using hK)⟩, ?_⟩
        refine ⟨fun b L W hK hj hw => p_f (f_plain rfl (s_move (ev_t rfl))) ⟨b, fun _ => rfl, fun _ _ => rfl, (by simpa [lset] using hK)⟩, ?_⟩
        refine ⟨fun b L W hK hj hw => p_f (f_plain rfl (s_cmp (ev_t rfl) ev_c rfl)) ⟨b, fun _ => rfl, fun _ _ => rfl, (by simpa [lset] using hK)⟩, ?_⟩
        refine ⟨fun b L W hK hj hw => p_f (f_plain rfl (s_cmpb Try.ub4 (ev_t rfl) (ev_t rfl) (.inr ⟨rfl, rfl⟩))) ⟨b, fun _ => rfl, fun _ _ => rfl, (by simpa [lset] using hK)⟩, ?_⟩
        refine ⟨fun b L W hK hj hw => p_f (f_plain rfl (s_move (ev_t rfl))) ⟨b, fun _ => rfl, fun _ _ => rfl, (by simpa [lset] using hK)⟩, ?_⟩
        refine ⟨fun b L W hK hj hw => p_f (f_known (gk rfl rfl (ev_t rfl) rfl) (s_move (ev_t rfl))) ⟨b, fun _ => rfl, fun _ _ => rfl, (by simpa [lset] using hK)⟩, ?_⟩
        refine ⟨fun b L W hK hj hw => p_f (f_known (gk rfl rfl (ev_t rfl) rfl) (s_not (ev_t rfl))) ⟨b, fun _ => rfl, fun _ _ => rfl, (by simpa [lset] using hK)⟩, ?_⟩
        refine ⟨fun b L W hK hj hw => p_f (f_known (gk rfl rfl (ev_t rfl) rfl) (s_move (ev_t rfl))) ⟨b, fun _ => rfl, fun _ _ => rfl, (by simpa [lset] using hK)⟩, ?_⟩
        refine ⟨fun b L W hK hj hw => p_f (f_known (gk rfl rfl (ev_t rfl) rfl) (s_move (ev_t rfl))) ⟨b, fun _ => rfl, fun _ _ => rfl, (by simpa [lset] using hK)⟩, ?_⟩
        refine ⟨fun b L W hK hj hw => p_f (f_known (gk rfl rfl (ev_t rfl) rfl) (s_cmp (ev_t rfl) ev_c rfl)) ⟨b, fun _ => rfl, fun _ _ => rfl, (by simpa [lset] using hK)⟩, ?_⟩
        refine ⟨fun b L W hK hj hw => p_f (f_known (gk rfl rfl (ev_t rfl) rfl) (s_pick (b := true) (ev_t rfl) (fun _ => (ev_t rfl)) (fun h => by cases h))) ⟨b, fun _ => rfl, fun _ _ => rfl, (by simpa [lset] using hK)⟩, ?_⟩
        refine ⟨fun b L W hK hj hw => p_f (f_plain rfl (s_pick (b := false) (ev_t rfl) (fun h => by cases h) (fun _ => (ev_t rfl)))) ⟨b, fun _ => rfl, fun _ _ => rfl, (by simpa [lset] using hK)⟩, ?_⟩
        refine ⟨fun b L W hK hj hw => p_f (f_plain rfl (s_move (ev_t rfl))) ⟨b, fun _ => rfl, fun _ _ => rfl, (by simpa [lset] using hK)⟩, ?_⟩
        refine ⟨fun b L W hK hj hw => p_f (f_known (gk rfl rfl (ev_t rfl) rfl) (s_move (ev_t rfl))) ⟨b, fun _ => rfl, fun _ _ => rfl, (by simpa [lset] using hK)⟩, ?_⟩
        refine ⟨fun b L W hK hj hw => p_f (f_known (gk rfl rfl (ev_t rfl) rfl) (s_call Try.okF60 ev_f (.cons (ev_t rfl) .nil) (fr_dead ((hle (p := true) ⟨hK.1, fun h => ⟨(hK.2.1 h).1, _, (hK.2.1 h).2⟩⟩) _ _ hrow)))) ⟨b, fun _ => rfl, fun _ _ => rfl, (by simpa [lset] using hK)⟩, ?_⟩
        refine ⟨fun b L W hK hj hw => p_f (f_known (gk rfl rfl (ev_t rfl) rfl) (s_move (ev_t rfl))) ⟨b, fun _ => rfl, fun _ _ => rfl, (by simpa [lset] using hK)⟩, ?_⟩
        refine ⟨fun b L W hK hj hw => p_f (f_known (gk rfl rfl (ev_t rfl) rfl) (s_cmpb Try.ub4 (ev_t rfl) (ev_t rfl) (.inr ⟨rfl, rfl⟩))) ⟨b, fun _ => rfl, fun _ _ => rfl, (by simpa [lset] using hK)⟩, ?_⟩
        refine ⟨fun b L W hK hj hw => p_f (f_plain rfl (s_pick (b := false) (ev_t rfl) (fun h => by cases h) (fun _ => (ev_t rfl)))) ⟨b, fun _ => rfl, fun _ _ => rfl, (by simpa [lset] using hK)⟩, ?_⟩
        refine ⟨fun b L W hK hj hw => p_f (f_plain rfl (s_move (ev_t rfl))) ⟨b, fun _ => rfl, fun _ _ => rfl, (by simpa [lset] using hK)⟩, ?_⟩
        refine ⟨fun b L W hK hj hw => p_f (f_known (gk rfl rfl (ev_t rfl) rfl) (s_move (ev_t rfl))) ⟨b, fun _ => rfl, fun _ _ => rfl, (by simpa [lset] using hK)⟩, ?_⟩
        refine ⟨fun b L W hK hj hw => p_f (f_known (gk rfl rfl (ev_t rfl) rfl) (s_call Try.okF61 ev_f (.cons (ev_t rfl) .nil) (fr_framesN ((hle (p := true) ⟨hK.1, fun h => ⟨(hK.2.1 h).1, _, (hK.2.1 h).2⟩⟩) _ _ hrow)))) ⟨b, fun _ => rfl, fun _ _ => rfl, (by simpa [lset] using hK)⟩, ?_⟩
        refine ⟨fun b L W hK hj hw => p_f (f_known (gk rfl rfl (ev_t rfl) rfl) (s_move (ev_t rfl))) ⟨b, fun _ => rfl, fun _ _ => rfl, (by simpa [lset] using hK)⟩, ?_⟩
        refine ⟨fun b L W hK hj hw => p_f (f_known (gk rfl rfl (ev_t rfl) rfl) (s_cmp (r := false) (ev_t rfl) (ev_t rfl) (by simp))) ⟨b, fun _ => rfl, fun _ _ => rfl, (by simpa [lset] using hK)⟩, ?_⟩
        refine ⟨fun b L W hK hj hw => p_f (f_plain rfl (s_pick (b := false) (ev_t rfl) (fun h => by cases h) (fun _ => (ev_t rfl)))) ⟨b, fun _ => rfl, fun _ _ => rfl, (by simpa [lset] using hK)⟩, ?_⟩
        refine ⟨fun b L W hK hj hw => p_f (f_plain rfl (s_move (ev_t rfl))) ⟨b, fun _ => rfl, fun _ _ => rfl, (by simpa [lset] using hK)⟩, ?_⟩
        refine ⟨fun b L W hK hj hw => p_f (f_known (gk rfl rfl (ev_t rfl) rfl) (s_move (ev_t rfl))) ⟨b, fun _ => rfl, fun _ _ => rfl, (by simpa [lset] using hK)⟩, ?_⟩
        refine ⟨fun b L W hK hj hw => p_f (f_known (gk rfl rfl (ev_t rfl) rfl) (s_call Try.okF62 ev_f (.cons (ev_t rfl) .nil) (fr_held ((hle (p := true) ⟨hK.1, fun h => ⟨(hK.2.1 h).1, _, (hK.2.1 h).2⟩⟩) _ _ hrow) (rowMono hR (hle (p := true) ⟨hK.1, fun h => ⟨(hK.2.1 h).1, _, (hK.2.1 h).2⟩⟩))))) ⟨b, fun _ => rfl, fun _ _ => rfl, (by simpa [lset] using hK)⟩, ?_⟩
        refine ⟨fun b L W hK hj hw => p_k (gk rfl rfl (ev_t rfl) rfl) s_makemap fun x V' hx => ?_, ?_⟩
        · obtain ⟨c, hc, rfl, rfl⟩ := hx
          have hW := hK.1 hj
          have h33 : L 33 = false := by cases h : L 33 with
            | false => rfl
            | true => rw [(hK.2.2.2.2 h).1] at hj; cases hj
          have h28 : L 28 = false := by cases h : L 28 with
            | false => rfl
            | true => exact absurd (hK.2.2.1 h) (by rw [hj]; simp)
          have h32 : L 32 = false := by cases h : L 32 with
            | false => rfl
            | true => exact absurd (hK.2.2.2.1 h) (by rw [hj]; simp)
          subst hW
          refine ⟨c, fun _ => rfl, fun i hi => ?_, ?_⟩
          · have h1 : i ≠ 27 := by rintro rfl; rw [hj] at hi; cases hi
            have h2 : i ≠ 33 := by rintro rfl; rw [h33] at hi; cases hi
            exact (match i, h1, h2 with
              | 0, _, _ => rfl
              | 1, _, _ => rfl
              | 2, _, _ => rfl
              | 3, _, _ => rfl
              | 4, _, _ => rfl
              | 5, _, _ => rfl
              | 6, _, _ => rfl
              | 7, _, _ => rfl
              | 8, _, _ => rfl
              | 9, _, _ => rfl
              | 10, _, _ => rfl
              | 11, _, _ => rfl
              | 12, _, _ => rfl
              | 13, _, _ => rfl
              | 14, _, _ => rfl
              | 15, _, _ => rfl
              | 16, _, _ => rfl
              | 17, _, _ => rfl
              | 18, _, _ => rfl
              | 19, _, _ => rfl
              | 20, _, _ => rfl
              | 21, _, _ => rfl
              | 22, _, _ => rfl
              | 23, _, _ => rfl
              | 24, _, _ => rfl
              | 25, _, _ => rfl
              | 26, _, _ => rfl
              | 27, g, _ => absurd rfl g
              | 28, _, _ => rfl
              | 29, _, _ => rfl
              | 30, _, _ => rfl
              | 31, _, _ => rfl
              | 32, _, _ => rfl
              | 33, _, g => absurd rfl g
              | 34, _, _ => rfl
              | 35, _, _ => rfl
              | 36, _, _ => rfl
              | 37, _, _ => rfl
              | n + 38, _, _ => rfl)
          · simp [lset, h28, h32, h33, hc, entsM]
        refine ⟨fun b L W hK hj hw => p_k (gk rfl rfl (ev_t rfl) rfl) (R := One (.v undef) (Vv.set b (.mp (entsM true (L 32) ((k : Int) - (usd Bs k : Int)))))) ?_ fun x V' hx => ?_, ?_⟩
        · have h27 : L 27 = true := hw 27 rfl
          obtain ⟨g1, g2⟩ := hK.2.1 h27
          subst g2
          rw [hj]
          exact OpS.viewEq (View.set_set _ _ _ _) (s_mapins (k := .bool true) (l := entsM false (L 32) ((k : Int) - (usd Bs k : Int))) (l' := entsM true (L 32) ((k : Int) - (usd Bs k : Int))) Try.um150 (klaw_plain Try.ub4) (View.set_same _ _ _) (entsM_ok _ _ _) (ev_t rfl) ev_c ev_c (show MapKept.IsKey .bool (.bool true) from trivial) (.inl (entsM_t _ _)))
        · obtain ⟨rfl, rfl⟩ := hx
          have h27 : L 27 = true := hw 27 rfl
          have h33 : L 33 = false := by cases h : L 33 with
            | false => rfl
            | true => have := (hK.2.2.2.2 h); rw [hj] at this; simp at this
          exact ⟨b, fun h => absurd rfl h, fun _ _ => rfl, by simp [lset, h27, h33, (hK.2.1 h27).1]⟩
        refine ⟨fun b L W hK hj hw => p_f (f_known (gk rfl rfl (ev_t rfl) rfl) (s_move (ev_t rfl))) ⟨b, fun _ => rfl, fun _ _ => rfl, (by simpa [lset] using hK)⟩, ?_⟩
        refine ⟨fun b L W hK hj hw => p_f (f_known (gk rfl rfl (ev_t rfl) rfl) (s_move (ev_t rfl))) ⟨b, fun _ => rfl, fun _ _ => rfl, (by simpa [lset] using hK)⟩, ?_⟩
        refine ⟨fun b L W hK hj hw => p_f (f_known (gk rfl rfl (ev_t rfl) rfl) (s_sub (ev_t rfl) (ev_t rfl) (by omega) (by omega))) ⟨b, fun _ => rfl, fun _ _ => rfl, (by simpa [lset] using hK)⟩, ?_⟩
        refine ⟨fun b L W hK hj hw => p_k (gk rfl rfl (ev_t rfl) rfl) (R := One (.v undef) (Vv.set b (.mp (entsM (L 28) true ((k : Int) - (usd Bs k : Int)))))) ?_ fun x V' hx => ?_, ?_⟩
        · have h27 : L 27 = true := hw 27 rfl
          obtain ⟨g1, g2⟩ := hK.2.1 h27
          subst g2
          rw [hj]
          exact OpS.viewEq (View.set_set _ _ _ _) (s_mapins (k := .bool false) (l := entsM (L 28) false ((k : Int) - (usd Bs k : Int))) (l' := entsM (L 28) true ((k : Int) - (usd Bs k : Int))) Try.um150 (klaw_plain Try.ub4) (View.set_same _ _ _) (entsM_ok _ _ _) (ev_t rfl) ev_c (ev_t rfl) (show MapKept.IsKey .bool (.bool false) from trivial) (.inl (entsM_f _ _)))
        · obtain ⟨rfl, rfl⟩ := hx
          have h27 : L 27 = true := hw 27 rfl
          have h33 : L 33 = false := by cases h : L 33 with
            | false => rfl
            | true => have := (hK.2.2.2.2 h); rw [hj] at this; simp at this
          exact ⟨b, fun h => absurd rfl h, fun _ _ => rfl, by simp [lset, h27, h33, (hK.2.1 h27).1]⟩
        refine ⟨fun b L W hK hj hw => p_f (f_known (gk rfl rfl (ev_t rfl) rfl) (s_move (ev_t rfl))) ⟨b, fun _ => rfl, fun _ _ => rfl, ?_⟩, ?_⟩
        · have h27 : L 27 = true := hw 27 rfl
          have h28 : L 28 = true := hw 28 rfl
          have h32 : L 32 = true := hw 32 rfl
          have := hK.2.1 h27
          simp [lset, h27, h28, h32] at this ⊢; exact this
        refine ⟨fun b L W hK hj hw => p_f (f_known (gk rfl rfl (ev_t rfl) rfl) (s_move (ev_t rfl))) ⟨b, fun _ => rfl, fun _ _ => rfl, (by simpa [lset] using hK)⟩, ?_⟩
        refine ⟨fun b L W hK hj hw => p_k (gk rfl rfl (ev_t rfl) rfl) (R := One (iv ((k : Int) - (usd Bs k : Int))) W) ?_ fun x V' hx => ?_, ?_⟩
        · obtain ⟨h27, h28, h32⟩ := hK.2.2.2.2 (hw 33 rfl)
          obtain ⟨g1, g2⟩ := hK.2.1 h27
          rw [h28, h32] at g2
          subst g2
          exact s_mapget1 (r := true) Try.um150 (klaw_plain Try.ub4) Try.z3 (View.set_same _ _ _) (entsM_ok _ _ _) (ev_t rfl) (ev_t rfl) (show MapKept.IsKey .bool (.bool false) from trivial) (.inl ⟨rfl, by simp [entsM]⟩)
        · obtain ⟨rfl, rfl⟩ := hx
          exact ⟨b, fun _ => rfl, fun _ _ => rfl, by simpa [lset] using hK⟩
        refine ⟨fun b L W hK hj hw => p_f (f_known (gk rfl rfl (ev_t rfl) rfl) (s_cmp (r := false) (ev_t rfl) (ev_t rfl) (by rw [show (((heldF Bs (behT wrong) k).length : Nat) : Int) = (k : Int) - (usd Bs k : Int) by omega]; simp))) ⟨b, fun _ => rfl, fun _ _ => rfl, (by simpa [lset] using hK)⟩, ?_⟩
        refine ⟨fun b L W hK hj hw => p_f (f_plain rfl (s_pick (b := false) (ev_t rfl) (fun h => by cases h) (fun _ => (ev_t rfl)))) ⟨b, fun _ => rfl, fun _ _ => rfl, (by simpa [lset] using hK)⟩, ?_⟩
        trivial
      · intro b L W hL hK
        obtain ⟨g1, g2⟩ := hK.2.1 (hL 27 (by decide))
        subst g2
        refine a_cond (ev_t rfl) (fun hc => by cases hc) (fun hc => a_skip ?_)
        refine a_weaken (View.le_self_set g1) ?_
        have hn0 : (needF (heldF Bs (behT wrong) k)).2 = 0 := by
          have := need_ok hB hD
          rw [needF, if_neg (by simp [this])]
        refine a_seq (a_region ?_)
        refine a_v rfl (s_move (ev_t rfl)) ?_
        refine a_v rfl (s_move (ev_t rfl)) ?_
        refine a_v rfl (s_move (ev_t rfl)) ?_
        refine a_v rfl (OpS.cast (congrArg (fun l => AVal.tree 1 (byT l)) hheld) (s_slicety Try.sl39 (ev_t rfl) (bnd_t (ev_t rfl) (n := usd Bs k) (by omega)) (bnd_t (ev_t rfl) (n := k) (by omega)) (by omega) (by omega))) ?_
        refine a_v rfl (s_call Try.okF63 ev_f (.cons (ev_t rfl) .nil) (fr_need (by omega) _)) ?_
        refine a_v rfl (s_move (ev_t rfl)) ?_
        refine a_v rfl (s_extract (ev_t rfl) rfl) ?_
        refine a_v rfl (s_extract (ev_t rfl) rfl) ?_
        refine a_v rfl (s_assign (ev_t rfl)) ?_
        refine a_v rfl (s_assign (ev_t rfl)) ?_
        refine a_nil ?_
        refine a_seq (a_region ?_)
        refine a_v rfl (s_move (ev_t rfl)) ?_
        refine a_v rfl (s_not (ev_t rfl)) ?_
        refine a_v rfl (s_move (ev_t rfl)) ?_
        refine a_vg (gk rfl rfl (ev_t rfl) rfl) rfl (s_move (ev_t rfl)) ?_
        refine a_vg (gk rfl rfl (ev_t rfl) rfl) rfl (s_cmp (ev_t rfl) ev_c rfl) ?_
        refine a_vg (gk rfl rfl (ev_t rfl) rfl) rfl (s_move (ev_t rfl)) ?_
        refine a_vg (gk rfl rfl (ev_t rfl) (by simp [hn0])) rfl (s_move (ev_t rfl)) ?_
        refine a_vg (gk rfl rfl (ev_t rfl) (by simp [hn0])) rfl (s_move (ev_t rfl)) ?_
        refine a_vg (gk rfl rfl (ev_t rfl) (by simp [hn0])) rfl (s_cmp (ev_t rfl) (ev_t rfl) rfl) ?_
        refine a_vg (gk rfl rfl (ev_t rfl) (by simp [hn0])) rfl (s_move (ev_t rfl)) ?_
        refine a_f rfl (f_guard rfl (gd_b rfl (ev_t rfl)) fun h9 => s_move (ev_t rfl)) ?_
        refine a_f rfl (f_guard rfl (gd_b rfl (ev_t rfl)) fun h9 => s_move (ev_t rfl)) ?_
        refine a_f rfl (f_guard rfl (gd_b rfl (ev_t rfl)) fun h9 => s_call Try.okF64 ev_f (.cons (ev_cond (ev_t rfl) h9) .nil) (fr_sneed hS2 (by first | omega | simp))) ?_
        refine a_f rfl (f_guard rfl (gd_b rfl (ev_t rfl)) fun h9 => s_cmp (r := false) (ev_cond (ev_t rfl) h9) (ev_cond (ev_t rfl) h9) (by simp)) ?_
        refine a_vg (gk rfl rfl (ev_t rfl) (by simp [hn0])) rfl (s_pickand (ev_t rfl) (ev_t rfl)) ?_
        refine a_vg (gk rfl rfl (ev_t rfl) rfl) rfl (s_pick (x := .v (.bool _)) (ev_t rfl) (fun hx => (by exact absurd hx (by first | (simp; done) | (simp [hn0]; done) | (simp [*]; done)))) (fun _ => (ev_t rfl))) ?_
        refine a_v rfl (s_pick (x := .v (.bool _)) (ev_t rfl) (fun _ => (ev_t rfl)) (fun hx => (by exact absurd hx (by first | (simp; done) | (simp []; done) | (simp [*]; done))))) ?_
        refine a_v rfl (s_move (ev_t rfl)) ?_
        refine a_vg (gk rfl rfl (ev_t rfl) (by simp)) rfl (s_move (ev_t rfl)) ?_
        refine a_vg (gk rfl rfl (ev_t rfl) (by simp)) rfl (s_move (ev_t rfl)) ?_
        refine a_no (gn rfl rfl (ev_t rfl) (by decide)) rfl ?_
        refine a_no (gn rfl rfl (ev_t rfl) (by decide)) rfl ?_
        refine a_no (gn rfl rfl (ev_t rfl) (by decide)) rfl ?_
        refine a_vg (gk rfl rfl (ev_t rfl) (by simp)) rfl (s_pick (x := bv false) (ev_t rfl) (fun hx => absurd hx (by decide)) (fun _ => ev_c)) ?_
        refine a_v rfl (s_pick (x := .v (.bool _)) (ev_t rfl) (fun hx => (by exact absurd hx (by first | (simp; done) | (simp []; done) | (simp [*]; done)))) (fun _ => (ev_t rfl))) ?_
        refine a_nil ?_
        refine a_cond (ev_t rfl) (fun hc => ?_) (fun hc => a_skip ?_)
        · exfalso; first | (simp at hc; done) | cases hc
        refine a_region ?_
        refine a_v rfl (s_move (ev_t rfl)) ?_
        refine a_v rfl (s_add (ev_t rfl) ev_c (by omega) (by omega)) ?_
        refine a_v rfl (s_assign (ev_t rfl)) ?_
        refine a_nil ?_
        exact ⟨(pieces.length - (i + 1)) + (all.length - k), by omega, i + 1, k, _, rfl, hjn, by omega, by omega, rfl, ⟨rfl, rfl, rfl, rfl, rfl, rfl, rfl, rfl, rfl, rfl, trivial⟩, by rw [hD]; exact hS2⟩
    · rw [hD] at hS2
      simp only [Bool.false_eq_true, if_false, if_true] at hS2
      obtain ⟨x, V₁, A0, h1, -, -⟩ := id hS2
      have hrow := accLe A0 _ _ h1
      have hR := accRow A0
      have hle : ∀ {b : Nat} {W : View} {p q : Bool}, ((q = false → W = Vv) ∧ (q = true → Vv b = none ∧ ∃ l, W = Vv.set b (.mp l))) → Vv.le W := by
        rintro b W p q ⟨g1, g2⟩
        cases q with
        | false => rw [g1 rfl]; exact View.le_refl _
        | true => obtain ⟨h3, l, rfl⟩ := g2 rfl; exact View.le_self_set h3
      refine a_seq (a_seq (a_any (β := Nat) (fun b j => ([bv true, iv 31, bv true, bv false, bv false, bv true, bv false, bv false, .v undef, .v undef, bv false, bv false, bv false, pt s 0, bv true, bv true, bv false, bv false, bv false, pt s 0, iv (cnt Bs k), iv (cnt Bs k), bv false, bv false, bv false, pt s 0, iv (([] : List UInt8)).length, .v (.map (some b)), .v undef, iv k, iv (usd Bs k), iv ((k : Int) - (usd Bs k : Int)), .v undef, .v (.map (some b)), bv true, iv 0, bv false, bv false] : List AVal).getD j (.v undef)) (fun b L W => (L 27 = false → W = Vv) ∧ (L 27 = true → Vv b = none ∧ W = Vv.set b (.mp (entsM (L 28) (L 32) ((k : Int) - (usd Bs k : Int))))) ∧ (L 28 = true → L 27 = true) ∧ (L 32 = true → L 27 = true) ∧ (L 33 = true → L 27 = true ∧ L 28 = true ∧ L 32 = true)) (0) Try.mixed (by kernel_rfl) ⟨fun _ => rfl, (fun h => by cases h), (fun h => by cases h), (fun h => by cases h), (fun h => by cases h)⟩ ?_ ?_))
      · refine ⟨fun b L W hK hj hw => p_f (f_plain rfl (s_move (ev_t rfl))) ⟨b, fun _ => rfl, fun _ _ => rfl, (by simpa [lset] using hK)⟩, ?_⟩
        refine ⟨fun b L W hK hj hw => p_f (f_plain rfl (s_move (ev_t rfl))) ⟨b, fun _ => rfl, fun _ _ => rfl, (by simpa [lset] using hK)⟩, ?_⟩
        refine ⟨fun b L W hK hj hw => p_f (f_plain rfl (s_cmp (ev_t rfl) ev_c rfl)) ⟨b, fun _ => rfl, fun _ _ => rfl, (by simpa [lset] using hK)⟩, ?_⟩
        refine ⟨fun b L W hK hj hw => p_f (f_plain rfl (s_cmpb Try.ub4 (ev_t rfl) (ev_t rfl) (.inr ⟨rfl, rfl⟩))) ⟨b, fun _ => rfl, fun _ _ => rfl, (by simpa [lset] using hK)⟩, ?_⟩
        refine ⟨fun b L W hK hj hw => p_f (f_plain rfl (s_move (ev_t rfl))) ⟨b, fun _ => rfl, fun _ _ => rfl, (by simpa [lset] using hK)⟩, ?_⟩
        refine ⟨fun b L W hK hj hw => p_f (f_known (gk rfl rfl (ev_t rfl) rfl) (s_move (ev_t rfl))) ⟨b, fun _ => rfl, fun _ _ => rfl, (by simpa [lset] using hK)⟩, ?_⟩
        refine ⟨fun b L W hK hj hw => p_f (f_known (gk rfl rfl (ev_t rfl) rfl) (s_not (ev_t rfl))) ⟨b, fun _ => rfl, fun _ _ => rfl, (by simpa [lset] using hK)⟩, ?_⟩
        refine ⟨fun b L W hK hj hw => p_f (f_known (gk rfl rfl (ev_t rfl) rfl) (s_move (ev_t rfl))) ⟨b, fun _ => rfl, fun _ _ => rfl, (by simpa [lset] using hK)⟩, ?_⟩
        refine ⟨fun b L W hK hj hw => p_no (gn rfl rfl (ev_t rfl) (by decide)) ⟨b, fun _ => rfl, fun _ _ => rfl, (by simpa [lset] using hK)⟩, ?_⟩
        refine ⟨fun b L W hK hj hw => p_no (gn rfl rfl (ev_t rfl) (by decide)) ⟨b, fun _ => rfl, fun _ _ => rfl, (by simpa [lset] using hK)⟩, ?_⟩
        refine ⟨fun b L W hK hj hw => p_f (f_known (gk rfl rfl (ev_t rfl) rfl) (s_pick (b := false) (ev_t rfl) (fun h => by cases h) (fun _ => ev_c))) ⟨b, fun _ => rfl, fun _ _ => rfl, (by simpa [lset] using hK)⟩, ?_⟩
        refine ⟨fun b L W hK hj hw => p_f (f_plain rfl (s_pick (b := false) (ev_t rfl) (fun h => by cases h) (fun _ => (ev_t rfl)))) ⟨b, fun _ => rfl, fun _ _ => rfl, (by simpa [lset] using hK)⟩, ?_⟩
        refine ⟨fun b L W hK hj hw => p_f (f_plain rfl (s_move (ev_t rfl))) ⟨b, fun _ => rfl, fun _ _ => rfl, (by simpa [lset] using hK)⟩, ?_⟩
        refine ⟨fun b L W hK hj hw => p_f (f_known (gk rfl rfl (ev_t rfl) rfl) (s_move (ev_t rfl))) ⟨b, fun _ => rfl, fun _ _ => rfl, (by simpa [lset] using hK)⟩, ?_⟩
        refine ⟨fun b L W hK hj hw => p_f (f_known (gk rfl rfl (ev_t rfl) rfl) (s_call Try.okF60 ev_f (.cons (ev_t rfl) .nil) (fr_dead ((hle (p := true) ⟨hK.1, fun h => ⟨(hK.2.1 h).1, _, (hK.2.1 h).2⟩⟩) _ _ hrow)))) ⟨b, fun _ => rfl, fun _ _ => rfl, (by simpa [lset] using hK)⟩, ?_⟩
        refine ⟨fun b L W hK hj hw => p_f (f_known (gk rfl rfl (ev_t rfl) rfl) (s_move (ev_t rfl))) ⟨b, fun _ => rfl, fun _ _ => rfl, (by simpa [lset] using hK)⟩, ?_⟩
        refine ⟨fun b L W hK hj hw => p_f (f_known (gk rfl rfl (ev_t rfl) rfl) (s_cmpb Try.ub4 (ev_t rfl) (ev_t rfl) (.inr ⟨rfl, rfl⟩))) ⟨b, fun _ => rfl, fun _ _ => rfl, (by simpa [lset] using hK)⟩, ?_⟩
        refine ⟨fun b L W hK hj hw => p_f (f_plain rfl (s_pick (b := false) (ev_t rfl) (fun h => by cases h) (fun _ => (ev_t rfl)))) ⟨b, fun _ => rfl, fun _ _ => rfl, (by simpa [lset] using hK)⟩, ?_⟩
        refine ⟨fun b L W hK hj hw => p_f (f_plain rfl (s_move (ev_t rfl))) ⟨b, fun _ => rfl, fun _ _ => rfl, (by simpa [lset] using hK)⟩, ?_⟩
        refine ⟨fun b L W hK hj hw => p_f (f_known (gk rfl rfl (ev_t rfl) rfl) (s_move (ev_t rfl))) ⟨b, fun _ => rfl, fun _ _ => rfl, (by simpa [lset] using hK)⟩, ?_⟩
        refine ⟨fun b L W hK hj hw => p_f (f_known (gk rfl rfl (ev_t rfl) rfl) (s_call Try.okF61 ev_f (.cons (ev_t rfl) .nil) (fr_framesN ((hle (p := true) ⟨hK.1, fun h => ⟨(hK.2.1 h).1, _, (hK.2.1 h).2⟩⟩) _ _ hrow)))) ⟨b, fun _ => rfl, fun _ _ => rfl, (by simpa [lset] using hK)⟩, ?_⟩
        refine ⟨fun b L W hK hj hw => p_f (f_known (gk rfl rfl (ev_t rfl) rfl) (s_move (ev_t rfl))) ⟨b, fun _ => rfl, fun _ _ => rfl, (by simpa [lset] using hK)⟩, ?_⟩
        refine ⟨fun b L W hK hj hw => p_f (f_known (gk rfl rfl (ev_t rfl) rfl) (s_cmp (r := false) (ev_t rfl) (ev_t rfl) (by simp))) ⟨b, fun _ => rfl, fun _ _ => rfl, (by simpa [lset] using hK)⟩, ?_⟩
        refine ⟨fun b L W hK hj hw => p_f (f_plain rfl (s_pick (b := false) (ev_t rfl) (fun h => by cases h) (fun _ => (ev_t rfl)))) ⟨b, fun _ => rfl, fun _ _ => rfl, (by simpa [lset] using hK)⟩, ?_⟩
        refine ⟨fun b L W hK hj hw => p_f (f_plain rfl (s_move (ev_t rfl))) ⟨b, fun _ => rfl, fun _ _ => rfl, (by simpa [lset] using hK)⟩, ?_⟩
        refine ⟨fun b L W hK hj hw => p_f (f_known (gk rfl rfl (ev_t rfl) rfl) (s_move (ev_t rfl))) ⟨b, fun _ => rfl, fun _ _ => rfl, (by simpa [lset] using hK)⟩, ?_⟩
        refine ⟨fun b L W hK hj hw => p_f (f_known (gk rfl rfl (ev_t rfl) rfl) (s_call Try.okF62 ev_f (.cons (ev_t rfl) .nil) (fr_held ((hle (p := true) ⟨hK.1, fun h => ⟨(hK.2.1 h).1, _, (hK.2.1 h).2⟩⟩) _ _ hrow) (rowMono hR (hle (p := true) ⟨hK.1, fun h => ⟨(hK.2.1 h).1, _, (hK.2.1 h).2⟩⟩))))) ⟨b, fun _ => rfl, fun _ _ => rfl, (by simpa [lset] using hK)⟩, ?_⟩
        refine ⟨fun b L W hK hj hw => p_k (gk rfl rfl (ev_t rfl) rfl) s_makemap fun x V' hx => ?_, ?_⟩
        · obtain ⟨c, hc, rfl, rfl⟩ := hx
          have hW := hK.1 hj
          have h33 : L 33 = false := by cases h : L 33 with
            | false => rfl
            | true => rw [(hK.2.2.2.2 h).1] at hj; cases hj
          have h28 : L 28 = false := by cases h : L 28 with
            | false => rfl
            | true => exact absurd (hK.2.2.1 h) (by rw [hj]; simp)
          have h32 : L 32 = false := by cases h : L 32 with
            | false => rfl
            | true => exact absurd (hK.2.2.2.1 h) (by rw [hj]; simp)
          subst hW
          refine ⟨c, fun _ => rfl, fun i hi => ?_, ?_⟩
          · have h1 : i ≠ 27 := by rintro rfl; rw [hj] at hi; cases hi
            have h2 : i ≠ 33 := by rintro rfl; rw [h33] at hi; cases hi
            exact (match i, h1, h2 with
              | 0, _, _ => rfl
              | 1, _, _ => rfl
              | 2, _, _ => rfl
              | 3, _, _ => rfl
              | 4, _, _ => rfl
              | 5, _, _ => rfl
              | 6, _, _ => rfl
              | 7, _, _ => rfl
              | 8, _, _ => rfl
              | 9, _, _ => rfl
              | 10, _, _ => rfl
              | 11, _, _ => rfl
              | 12, _, _ => rfl
              | 13, _, _ => rfl
              | 14, _, _ => rfl
              | 15, _, _ => rfl
              | 16, _, _ => rfl
              | 17, _, _ => rfl
              | 18, _, _ => rfl
              | 19, _, _ => rfl
              | 20, _, _ => rfl
              | 21, _, _ => rfl
              | 22, _, _ => rfl
              | 23, _, _ => rfl
              | 24, _, _ => rfl
              | 25, _, _ => rfl
              | 26, _, _ => rfl
              | 27, g, _ => absurd rfl g
              | 28, _, _ => rfl
              | 29, _, _ => rfl
              | 30, _, _ => rfl
              | 31, _, _ => rfl
              | 32, _, _ => rfl
              | 33, _, g => absurd rfl g
              | 34, _, _ => rfl
              | 35, _, _ => rfl
              | 36, _, _ => rfl
              | 37, _, _ => rfl
              | n + 38, _, _ => rfl)
          · simp [lset, h28, h32, h33, hc, entsM]
        refine ⟨fun b L W hK hj hw => p_k (gk rfl rfl (ev_t rfl) rfl) (R := One (.v undef) (Vv.set b (.mp (entsM true (L 32) ((k : Int) - (usd Bs k : Int)))))) ?_ fun x V' hx => ?_, ?_⟩
        · have h27 : L 27 = true := hw 27 rfl
          obtain ⟨g1, g2⟩ := hK.2.1 h27
          subst g2
          rw [hj]
          exact OpS.viewEq (View.set_set _ _ _ _) (s_mapins (k := .bool true) (l := entsM false (L 32) ((k : Int) - (usd Bs k : Int))) (l' := entsM true (L 32) ((k : Int) - (usd Bs k : Int))) Try.um150 (klaw_plain Try.ub4) (View.set_same _ _ _) (entsM_ok _ _ _) (ev_t rfl) ev_c ev_c (show MapKept.IsKey .bool (.bool true) from trivial) (.inl (entsM_t _ _)))
        · obtain ⟨rfl, rfl⟩ := hx
          have h27 : L 27 = true := hw 27 rfl
          have h33 : L 33 = false := by cases h : L 33 with
            | false => rfl
            | true => have := (hK.2.2.2.2 h); rw [hj] at this; simp at this
          exact ⟨b, fun h => absurd rfl h, fun _ _ => rfl, by simp [lset, h27, h33, (hK.2.1 h27).1]⟩
        refine ⟨fun b L W hK hj hw => p_f (f_known (gk rfl rfl (ev_t rfl) rfl) (s_move (ev_t rfl))) ⟨b, fun _ => rfl, fun _ _ => rfl, (by simpa [lset] using hK)⟩, ?_⟩
        refine ⟨fun b L W hK hj hw => p_f (f_known (gk rfl rfl (ev_t rfl) rfl) (s_move (ev_t rfl))) ⟨b, fun _ => rfl, fun _ _ => rfl, (by simpa [lset] using hK)⟩, ?_⟩
        refine ⟨fun b L W hK hj hw => p_f (f_known (gk rfl rfl (ev_t rfl) rfl) (s_sub (ev_t rfl) (ev_t rfl) (by omega) (by omega))) ⟨b, fun _ => rfl, fun _ _ => rfl, (by simpa [lset] using hK)⟩, ?_⟩
        refine ⟨fun b L W hK hj hw => p_k (gk rfl rfl (ev_t rfl) rfl) (R := One (.v undef) (Vv.set b (.mp (entsM (L 28) true ((k : Int) - (usd Bs k : Int)))))) ?_ fun x V' hx => ?_, ?_⟩
        · have h27 : L 27 = true := hw 27 rfl
          obtain ⟨g1, g2⟩ := hK.2.1 h27
          subst g2
          rw [hj]
          exact OpS.viewEq (View.set_set _ _ _ _) (s_mapins (k := .bool false) (l := entsM (L 28) false ((k : Int) - (usd Bs k : Int))) (l' := entsM (L 28) true ((k : Int) - (usd Bs k : Int))) Try.um150 (klaw_plain Try.ub4) (View.set_same _ _ _) (entsM_ok _ _ _) (ev_t rfl) ev_c (ev_t rfl) (show MapKept.IsKey .bool (.bool false) from trivial) (.inl (entsM_f _ _)))
        · obtain ⟨rfl, rfl⟩ := hx
          have h27 : L 27 = true := hw 27 rfl
          have h33 : L 33 = false := by cases h : L 33 with
            | false => rfl
            | true => have := (hK.2.2.2.2 h); rw [hj] at this; simp at this
          exact ⟨b, fun h => absurd rfl h, fun _ _ => rfl, by simp [lset, h27, h33, (hK.2.1 h27).1]⟩
        refine ⟨fun b L W hK hj hw => p_f (f_known (gk rfl rfl (ev_t rfl) rfl) (s_move (ev_t rfl))) ⟨b, fun _ => rfl, fun _ _ => rfl, ?_⟩, ?_⟩
        · have h27 : L 27 = true := hw 27 rfl
          have h28 : L 28 = true := hw 28 rfl
          have h32 : L 32 = true := hw 32 rfl
          have := hK.2.1 h27
          simp [lset, h27, h28, h32] at this ⊢; exact this
        refine ⟨fun b L W hK hj hw => p_f (f_known (gk rfl rfl (ev_t rfl) rfl) (s_move (ev_t rfl))) ⟨b, fun _ => rfl, fun _ _ => rfl, (by simpa [lset] using hK)⟩, ?_⟩
        refine ⟨fun b L W hK hj hw => p_k (gk rfl rfl (ev_t rfl) rfl) (R := One (iv 0) W) ?_ fun x V' hx => ?_, ?_⟩
        · obtain ⟨h27, h28, h32⟩ := hK.2.2.2.2 (hw 33 rfl)
          obtain ⟨g1, g2⟩ := hK.2.1 h27
          rw [h28, h32] at g2
          subst g2
          exact s_mapget1 (r := true) Try.um150 (klaw_plain Try.ub4) Try.z3 (View.set_same _ _ _) (entsM_ok _ _ _) (ev_t rfl) (ev_t rfl) (show MapKept.IsKey .bool (.bool true) from trivial) (.inl ⟨rfl, by simp [entsM]⟩)
        · obtain ⟨rfl, rfl⟩ := hx
          exact ⟨b, fun _ => rfl, fun _ _ => rfl, by simpa [lset] using hK⟩
        refine ⟨fun b L W hK hj hw => p_f (f_known (gk rfl rfl (ev_t rfl) rfl) (s_cmp (r := false) (ev_t rfl) (ev_t rfl) (by simp))) ⟨b, fun _ => rfl, fun _ _ => rfl, (by simpa [lset] using hK)⟩, ?_⟩
        refine ⟨fun b L W hK hj hw => p_f (f_plain rfl (s_pick (b := false) (ev_t rfl) (fun h => by cases h) (fun _ => (ev_t rfl)))) ⟨b, fun _ => rfl, fun _ _ => rfl, (by simpa [lset] using hK)⟩, ?_⟩
        trivial
      · intro b L W hL hK
        obtain ⟨g1, g2⟩ := hK.2.1 (hL 27 (by decide))
        subst g2
        refine a_cond (ev_t rfl) (fun hc => by cases hc) (fun hc => a_skip ?_)
        refine a_weaken (View.le_self_set g1) ?_
        refine a_seq (a_region ?_)
        refine a_v rfl (s_move (ev_t rfl)) ?_
        refine a_v rfl (s_move (ev_t rfl)) ?_
        refine a_v rfl (s_move (ev_t rfl)) ?_
        refine a_v rfl (OpS.cast (congrArg (fun l => AVal.tree 1 (byT l)) hheld) (s_slicety Try.sl39 (ev_t rfl) (bnd_t (ev_t rfl) (n := usd Bs k) (by omega)) (bnd_t (ev_t rfl) (n := k) (by omega)) (by omega) (by omega))) ?_
        refine a_v rfl (s_call Try.okF63 ev_f (.cons (ev_t rfl) .nil) (fr_need (by omega) _)) ?_
        refine a_v rfl (s_move (ev_t rfl)) ?_
        refine a_v rfl (s_extract (ev_t rfl) rfl) ?_
        refine a_v rfl (s_extract (ev_t rfl) rfl) ?_
        refine a_v rfl (s_assign (ev_t rfl)) ?_
        refine a_v rfl (s_assign (ev_t rfl)) ?_
        refine a_nil ?_
        refine a_seq (a_region ?_)
        refine a_v rfl (s_move (ev_t rfl)) ?_
        refine a_v rfl (s_not (ev_t rfl)) ?_
        refine a_v rfl (s_move (ev_t rfl)) ?_
        refine a_no (gn rfl rfl (ev_t rfl) (by decide)) rfl ?_
        refine a_no (gn rfl rfl (ev_t rfl) (by decide)) rfl ?_
        refine a_no (gn rfl rfl (ev_t rfl) (by decide)) rfl ?_
        refine a_no (gnu rfl rfl (ev_t rfl)) rfl ?_
        refine a_no (gnu rfl rfl (ev_t rfl)) rfl ?_
        refine a_no (gnu rfl rfl (ev_t rfl)) rfl ?_
        refine a_no (gnu rfl rfl (ev_t rfl)) rfl ?_
        refine a_no (gnu rfl rfl (ev_t rfl)) rfl ?_
        refine a_no (gnu rfl rfl (ev_t rfl)) rfl ?_
        refine a_no (gnu rfl rfl (ev_t rfl)) rfl ?_
        refine a_no (gnu rfl rfl (ev_t rfl)) rfl ?_
        refine a_no (gnu rfl rfl (ev_t rfl)) rfl ?_
        refine a_no (gn rfl rfl (ev_t rfl) (by decide)) rfl ?_
        refine a_v rfl (s_pick (x := bv false) (ev_t rfl) (fun hx => absurd hx (by decide)) (fun _ => ev_c)) ?_
        refine a_v rfl (s_move (ev_t rfl)) ?_
        refine a_vg (gk rfl rfl (ev_t rfl) rfl) rfl (s_move (ev_t rfl)) ?_
        refine a_vg (gk rfl rfl (ev_t rfl) rfl) rfl (s_move (ev_t rfl)) ?_
        refine a_vg (gk rfl rfl (ev_t rfl) rfl) rfl (s_move (ev_t rfl)) ?_
        refine a_vg (gk rfl rfl (ev_t rfl) rfl) rfl (s_call Try.okF64 ev_f (.cons (ev_t rfl) .nil) (fr_sneed hS2 (by first | omega | simp))) ?_
        refine a_vg (gk rfl rfl (ev_t rfl) rfl) rfl (s_cmp (r := false) (ev_t rfl) ev_c (by simp)) ?_
        refine a_vg (gk rfl rfl (ev_t rfl) rfl) rfl (s_pick (x := .v (.bool _)) (ev_t rfl) (fun _ => (ev_t rfl)) (fun hx => (by exact absurd hx (by first | (simp; done) | (simp []; done) | (simp [*]; done))))) ?_
        refine a_v rfl (s_pick (x := .v (.bool _)) (ev_t rfl) (fun hx => (by exact absurd hx (by first | (simp; done) | (simp []; done) | (simp [*]; done)))) (fun _ => (ev_t rfl))) ?_
        refine a_nil ?_
        refine a_cond (ev_t rfl) (fun hc => ?_) (fun hc => a_skip ?_)
        · exfalso; first | (simp at hc; done) | cases hc
        refine a_region ?_
        refine a_v rfl (s_move (ev_t rfl)) ?_
        refine a_v rfl (s_add (ev_t rfl) ev_c (by omega) (by omega)) ?_
        refine a_v rfl (s_assign (ev_t rfl)) ?_
        refine a_nil ?_
        exact ⟨(pieces.length - (i + 1)) + (all.length - k), by omega, i + 1, k, _, rfl, hjn, by omega, by omega, rfl, ⟨rfl, rfl, rfl, rfl, rfl, rfl, rfl, rfl, rfl, rfl, trivial⟩, by rw [hD]; exact hS2⟩
  repeat first | refine thenA_x ?_ | refine blockA_hit ?_ | refine blockA_x (by decide) ?_
  have hje : j = all.length := by simp at hc; omega
  subst hje
  have hcl := cnt_all Bs all.length hfl
  have hsp : splitF all = (Bs, behT wrong) := by
    have h1 := split_pre (beh wrong) Bs (all.length + 1) all.length hB (by simp; omega)
    rw [← hall', List.take_length, hcl.1, hcl.2, List.take_length] at h1
    rw [splitF, h1, hall', List.drop_left]
  have hse : splitE all = if wrong then 31 else 30 := by
    have h1 := (beh wrong 4).1
    have h2 : (behT wrong).take 4 = behT wrong := by cases wrong <;> rfl
    rw [h2] at h1
    rw [splitE, hsp]
    simp only
    rw [h1, if_neg (by cases wrong <;> simp [behT])]
    cases wrong <;> rfl
  have hal : (all.length : Int) - ((behT wrong).length : Int) = ((frs Bs).length : Int) := by rw [hall']; simp
  refine a_seq (a_region ?_)
  refine a_v rfl (s_move (ev_t rfl)) ?_
  refine a_v rfl (s_call Try.okF65 ev_f (.cons (ev_t rfl) .nil) (fr_fsplit (by omega) _)) ?_
  refine a_v rfl (s_move (ev_t rfl)) ?_
  refine a_v rfl (s_extract (ev_t rfl) rfl) ?_
  refine a_v rfl (s_extract (ev_t rfl) rfl) ?_
  refine a_v rfl (s_extract (ev_t rfl) rfl) ?_
  refine a_v rfl (s_assign (ev_t rfl)) ?_
  refine a_v rfl (s_assign (ev_t rfl)) ?_
  refine a_v rfl (s_assign (ev_t rfl)) ?_
  refine a_nil ?_
  refine a_seq (a_region ?_)
  refine a_v rfl (s_assign ev_c) ?_
  refine a_nil ?_
  refine a_seq (a_seq (a_region ?_))
  refine a_v rfl (s_move (ev_t rfl)) ?_
  refine a_nil ?_
  rw [hsp, hse]
  refine a_cut1 (fun st V₁ => ∃ (lt : List (Nat × AVal)), st = ⟨lt, 227⟩ ∧ SubT [(1, iv (frs Bs).length), (2, .tree 1 (bysT Bs)), (12, iv (cnt Bs all.length)), (24, .tree 1 (bysT Bs)), (25, iv ((all.length : Int) - ((behT wrong).length : Int))), (26, iv (if wrong then 31 else 30)), (27, iv (if wrong then 31 else 30))] lt ∧ W = V₁) ?_ ?_
  · refine a_cond (ev_t rfl) (fun hc => ?_) (fun hc => a_skip ?_)
    · subst hc
      refine a_region ?_
      refine a_v rfl (s_assign ev_c) ?_
      refine a_nil ?_
      exact ⟨_, rfl, ⟨rfl, rfl, rfl, rfl, rfl, rfl, rfl, trivial⟩, rfl⟩
    · subst hc
      exact ⟨_, rfl, ⟨rfl, rfl, rfl, rfl, rfl, rfl, rfl, trivial⟩, rfl⟩
  rintro st V₁ ⟨lt, rfl, hs, rfl⟩
  refine a_forget hs ?_
  rw [hcl.1, hal]
  refine a_seq (a_region ?_)
  refine a_v rfl (s_move (ev_t rfl)) ?_
  refine a_v rfl (s_move (ev_t rfl)) ?_
  refine a_v rfl (s_lent Try.us88 (ev_t rfl)) ?_
  refine a_v rfl (s_cmp (ev_t rfl) (ev_t rfl) rfl) ?_
  refine a_v rfl (s_move (ev_t rfl)) ?_
  refine a_vg (gk rfl rfl (ev_t rfl) (by simp [bysT_len])) rfl (s_move (ev_t rfl)) ?_
  refine a_vg (gk rfl rfl (ev_t rfl) (by simp [bysT_len])) rfl (s_lent Try.us88 (ev_t rfl)) ?_
  refine a_vg (gk rfl rfl (ev_t rfl) (by simp [bysT_len])) rfl (s_move (ev_t rfl)) ?_
  refine a_vg (gk rfl rfl (ev_t rfl) (by simp [bysT_len])) rfl (s_lent Try.us88 (ev_t rfl)) ?_
  refine a_vg (gk rfl rfl (ev_t rfl) (by simp [bysT_len])) rfl (s_cmp (ev_t rfl) (ev_t rfl) rfl) ?_
  refine a_v rfl (s_pick (x := .v (.bool _)) (ev_t rfl) (fun _ => (ev_t rfl)) (fun hx => (by exact absurd hx (by first | (simp; done) | (simp [bysT_len]; done) | (simp [*]; done))))) ?_
  refine a_v rfl (s_move (ev_t rfl)) ?_
  refine a_vg (gk rfl rfl (ev_t rfl) (by simp)) rfl (s_move (ev_t rfl)) ?_
  refine a_vg (gk rfl rfl (ev_t rfl) (by simp)) rfl (s_move (ev_t rfl)) ?_
  refine a_vg (gk rfl rfl (ev_t rfl) (by simp)) rfl (s_cmp (ev_t rfl) (ev_t rfl) rfl) ?_
  refine a_v rfl (s_pick (x := .v (.bool _)) (ev_t rfl) (fun _ => (ev_t rfl)) (fun hx => (by exact absurd hx (by first | (simp; done) | (simp [bysT_len]; done) | (simp [*]; done))))) ?_
  refine a_v rfl (s_move (ev_t rfl)) ?_
  refine a_vg (gk rfl rfl (ev_t rfl) (by simp)) rfl (s_move (ev_t rfl)) ?_
  refine a_vg (gk rfl rfl (ev_t rfl) (by simp)) rfl (s_move (ev_t rfl)) ?_
  refine a_vg (gk rfl rfl (ev_t rfl) (by simp)) rfl (s_cmp (ev_t rfl) (ev_t rfl) rfl) ?_
  refine a_v rfl (s_pick (x := .v (.bool _)) (ev_t rfl) (fun _ => (ev_t rfl)) (fun hx => (by exact absurd hx (by first | (simp; done) | (simp [bysT_len]; done) | (simp [*]; done))))) ?_
  refine a_v rfl (s_assign (ev_t rfl)) ?_
  refine a_nil ?_
  refine a_ret ?_
  obtain ⟨x, V₂, A0, h1, h2, -⟩ := hS
  refine ⟨[_], V, ⟨_, _, rfl, ev_t rfl, rfl⟩, ?_, by simp [oneOf], rfl⟩
  rw [← h2]
  exact View.le_trans (View.drop_le _ _) (accLe A0)
#print axioms fr_fed
end Go.Proofs
