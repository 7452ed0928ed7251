/- Cells with marks: the functions that only read a memory. -/
import Derived.Test.YtapelipehckbcaaMkB
set_option linter.unusedVariables false
set_option linter.unusedSimpArgs false
namespace Go.AV
def ownR (X : Nat → AVal) (k : Int) : AVal × Int := if k < 1 ∨ 3 < k then (.v (.slice none 0 0), 211) else (X (k - 1).toNat, 0)
theorem ownR_ok {X : Nat → AVal} {k : Int} {o : Nat} (h : k = (o : Int) + 1) (ho : o < 3) : ownR X k = (X o, 0) := by
  unfold ownR
  rw [if_neg (by omega), show (k - 1).toNat = o by omega]
theorem ownR_bad {X : Nat → AVal} {k : Int} (h : k < 1 ∨ 3 < k) : ownR X k = (.v (.slice none 0 0), 211) := by
  unfold ownR; rw [if_pos h]
def loadR (n : Nat → Nat) (c : Ce) (k i : Int) : Int × Int := if k < 1 ∨ 3 < k then (0, 211) else if i < 0 ∨ (n (k - 1).toNat : Int) ≤ i then (0, 212) else (c (k - 1).toNat i.toNat, 0)
theorem loadR_ok {n : Nat → Nat} {c : Ce} {k i : Int} {o j : Nat} (h : k = (o : Int) + 1) (ho : o < 3) (hi : i = (j : Int)) (hj : j < n o) : loadR n c k i = (c o j, 0) := by
  unfold loadR
  have e : (k - 1).toNat = o := by omega
  rw [if_neg (by omega), e, if_neg (by omega), show i.toNat = j by omega]
theorem loadR_212 {n : Nat → Nat} {c : Ce} {k i : Int} {o : Nat} (h : k = (o : Int) + 1) (ho : o < 3) (hi : i < 0 ∨ (n o : Int) ≤ i) : loadR n c k i = (0, 212) := by
  unfold loadR
  have e : (k - 1).toNat = o := by omega
  rw [if_neg (by omega), e, if_pos hi]
theorem loadR_211 {n : Nat → Nat} {c : Ce} {k i : Int} (h : k < 1 ∨ 3 < k) : loadR n c k i = (0, 211) := by
  unfold loadR; rw [if_pos h]
theorem cells3 {X : Nat → AVal} {o : Nat} (ho : o < 3) (i : Int) (hi : i = (o : Int)) : rdc false 1 [X 0, X 1, X 2] (0 + i.toNat * 1) = some (X o) := by
  subst hi
  have : o = 0 ∨ o = 1 ∨ o = 2 := by omega
  rcases this with rfl | rfl | rfl <;> rfl
theorem rdRow {c : Ce} {o n j : Nat} (hj : j < n) (i : Int) (hi : i = (j : Int)) : rdc false 1 (rowV c o n) (0 + i.toNat * 1) = some (iv (c o j)) := by
  subst hi
  simp [rdc, rowV_get hj]
end Go.AV
namespace Go.Proofs
open Go.AV
variable {V V₀ : View} {b bc cap : Nat} {n : Nat → Nat} {c base : Ce} {ss : List Ce} {X : Nat → AVal} {xm : AVal}
theorem mk_is {r : List AVal} {N : Option Nat} (hb : V b = some (.rown (bv true :: r) N)) : ACalls Try.prog 48 [pt b 0] V (One (bv true) V) := by
  refine a_fn (fn := Try.f48) Try.func48 rfl ?_ rfl
  refine a_seq (a_region ?_)
  refine a_v rfl (s_assign ev_c) ?_
  refine a_nil ?_
  refine a_seq (a_region ?_)
  refine a_v rfl (s_move (ev_t rfl)) ?_
  refine a_v rfl (s_pnil Try.up66 (ev_t rfl) (.inr ⟨rfl, rfl⟩)) ?_
  refine a_v rfl (s_move (ev_t rfl)) ?_
  refine a_vg (gk rfl rfl (ev_t rfl) rfl) rfl (s_move (ev_t rfl)) ?_
  refine a_vg (gk rfl rfl (ev_t rfl) rfl) rfl (s_nilCheck (ev_t rfl)) ?_
  refine a_vg (gk rfl rfl (ev_t rfl) rfl) rfl (s_fieldAddr Try.f122_0 rfl (ev_t rfl)) ?_
  refine a_vg (gk rfl rfl (ev_t rfl) rfl) rfl (s_load Try.sh4 (ev_t rfl) hb rfl) ?_
  refine a_v rfl (s_pick (x := .v (.bool _)) (ev_t rfl) (fun _ => (ev_t rfl)) (fun hx => (by exact absurd hx (by first | (simp; done) | (simp []; done) | (simp [*]; done))))) ?_
  refine a_v rfl (s_assign (ev_t rfl)) ?_
  refine a_nil ?_
  refine a_ret ?_
  exact ⟨[_], _, ⟨_, _, rfl, ev_t rfl, rfl⟩, View.le_refl _, rfl, rfl⟩
theorem mk_owner (O : Opened V b n c base ss V₀ bc cap X xm) (k : Int) (hk : -4611686018427387904 ≤ k ∧ k < 4611686018427387904) : ACalls Try.prog 50 [pt b 0, iv k] V (One (.tuple [(ownR X k).1, iv (ownR X k).2]) V) := by
  refine a_fn (fn := Try.f50) Try.func50 rfl ?_ rfl
  refine a_seq (a_region ?_)
  refine a_v rfl (s_assign ev_c) ?_
  refine a_v rfl (s_assign ev_c) ?_
  refine a_nil ?_
  refine a_seq (a_block ?_)
  refine a_seq (a_region ?_)
  refine a_v rfl (s_move (ev_t rfl)) ?_
  refine a_v rfl (s_call Try.okM48 ev_f (.cons (ev_t rfl) .nil) (mk_is O.row)) ?_
  refine a_v rfl (s_not (ev_t rfl)) ?_
  refine a_v rfl (s_assign (ev_t rfl)) ?_
  refine a_nil ?_
  refine a_cond (ev_t rfl) (fun hc => absurd hc (by simp)) (fun hc => ?_)
  refine a_seq (a_region ?_)
  refine a_v rfl (s_move (ev_t rfl)) ?_
  refine a_v rfl (s_cmp (ev_t rfl) ev_c rfl) ?_
  refine a_v rfl (s_move (ev_t rfl)) ?_
  refine a_f rfl (f_guard rfl (gd_b rfl (ev_t rfl)) fun h2 => s_move (ev_t rfl)) ?_
  refine a_f rfl (f_guard rfl (gd_b rfl (ev_t rfl)) fun h2 => s_move (ev_t rfl)) ?_
  refine a_f rfl (f_guard rfl (gd_b rfl (ev_t rfl)) fun h2 => s_nilCheck (ev_cond (ev_t rfl) h2)) ?_
  refine a_f rfl (f_guard rfl (gd_b rfl (ev_t rfl)) fun h2 => s_fieldAddr Try.f122_1 rfl (ev_cond (ev_t rfl) h2)) ?_
  refine a_f rfl (f_guard rfl (gd_b rfl (ev_t rfl)) fun h2 => s_load Try.sh119 (ev_cond (ev_t rfl) h2) O.row rfl) ?_
  refine a_f rfl (f_guard rfl (gd_b rfl (ev_t rfl)) fun h2 => s_lens Try.us119 (ev_cond (ev_t rfl) h2)) ?_
  refine a_f rfl (f_guard rfl (gd_b rfl (ev_t rfl)) fun h2 => s_cmp (ev_cond (ev_t rfl) h2) (ev_cond (ev_t rfl) h2) rfl) ?_
  refine a_v rfl (s_pickor (ev_t rfl) (ev_t rfl)) ?_
  refine a_v rfl (s_assign (ev_t rfl)) ?_
  refine a_nil ?_
  refine a_cond (ev_t rfl) (fun hc => ?_) (fun hc => a_skip ?_)
  · have hbad : k < 1 ∨ 3 < k := by simp at hc; omega
    refine a_seq (a_region ?_)
    refine a_v rfl (s_assign ev_c) ?_
    refine a_v rfl (s_assign ev_c) ?_
    refine a_nil ?_
    refine a_ret ?_
    exact ⟨[_, _], _, ⟨_, _, rfl, ev_t rfl, _, _, rfl, ev_t rfl, rfl⟩, View.le_refl _, (by rw [ownR_bad hbad]; rfl), rfl⟩
  have hk1 : 1 ≤ k ∧ k ≤ 3 := by simp at hc; omega
  obtain ⟨o, ho, ho3⟩ : ∃ o : Nat, k = (o : Int) + 1 ∧ o < 3 := ⟨(k - 1).toNat, by omega, by omega⟩
  repeat first | refine thenA_x ?_ | refine blockA_hit ?_ | refine blockA_x (by decide) ?_
  refine a_seq (a_region ?_)
  refine a_v rfl (s_move (ev_t rfl)) ?_
  refine a_v rfl (s_nilCheck (ev_t rfl)) ?_
  refine a_v rfl (s_fieldAddr Try.f122_1 rfl (ev_t rfl)) ?_
  refine a_v rfl (s_load Try.sh119 (ev_t rfl) O.row rfl) ?_
  refine a_v rfl (s_move (ev_t rfl)) ?_
  refine a_v rfl (s_sub (ev_t rfl) ev_c (by omega) (by omega)) ?_
  refine a_v rfl (s_idxs Try.sl119 (ev_t rfl) (ev_t rfl) (by omega) (by omega)) ?_
  refine a_v rfl (s_load Try.sh84 (ev_t rfl) O.cells (cells3 ho3 _ (by omega))) ?_
  refine a_v rfl (s_assign (ev_t rfl)) ?_
  refine a_v rfl (s_assign ev_c) ?_
  refine a_nil ?_
  refine a_ret ?_
  exact ⟨[_, _], _, ⟨_, _, rfl, ev_t rfl, _, _, rfl, ev_t rfl, rfl⟩, View.le_refl _, (by rw [ownR_ok ho ho3]; rfl), rfl⟩
theorem mk_load (O : Opened V b n c base ss V₀ bc cap X xm) (k i : Int) (hk : -4611686018427387904 ≤ k ∧ k < 4611686018427387904) : ACalls Try.prog 23 [pt b 0, iv k, iv i] V (One (.tuple [iv (loadR n c k i).1, iv (loadR n c k i).2]) V) := by
  refine a_fn (fn := Try.f23) Try.func23 rfl ?_ rfl
  refine a_seq (a_region ?_)
  refine a_v rfl (s_assign ev_c) ?_
  refine a_v rfl (s_assign ev_c) ?_
  refine a_nil ?_
  refine a_seq (a_region ?_)
  refine a_v rfl (s_move (ev_t rfl)) ?_
  refine a_v rfl (s_move (ev_t rfl)) ?_
  refine a_v rfl (s_call Try.okM50 ev_f (.cons (ev_t rfl) (.cons (ev_t rfl) .nil)) (mk_owner O _ hk)) ?_
  refine a_v rfl (s_move (ev_t rfl)) ?_
  refine a_v rfl (s_extract (ev_t rfl) rfl) ?_
  refine a_v rfl (s_extract (ev_t rfl) rfl) ?_
  refine a_v rfl (s_assign (ev_t rfl)) ?_
  refine a_v rfl (s_assign (ev_t rfl)) ?_
  refine a_nil ?_
  refine a_seq (a_block ?_)
  refine a_seq (a_region ?_)
  refine a_v rfl (s_move (ev_t rfl)) ?_
  refine a_v rfl (s_cmp (ev_t rfl) ev_c rfl) ?_
  refine a_v rfl (s_assign (ev_t rfl)) ?_
  refine a_nil ?_
  refine a_cond (ev_t rfl) (fun hc => ?_) (fun hc => ?_)
  · have hbad : k < 1 ∨ 3 < k := by
      refine Classical.byContradiction fun h => ?_
      rw [ownR_ok (o := (k - 1).toNat) (by omega) (by omega)] at hc; simp at hc
    refine a_seq (a_region ?_)
    refine a_v rfl (s_move (ev_t rfl)) ?_
    refine a_v rfl (s_assign ev_c) ?_
    refine a_v rfl (s_assign (ev_t rfl)) ?_
    refine a_nil ?_
    refine a_ret ?_
    exact ⟨[_, _], _, ⟨_, _, rfl, ev_t rfl, _, _, rfl, ev_t rfl, rfl⟩, View.le_refl _, (by rw [ownR_bad hbad, loadR_211 hbad]; rfl), rfl⟩
  have hk1 : 1 ≤ k ∧ k ≤ 3 := by
    refine Classical.byContradiction fun h => ?_
    rw [ownR_bad (by omega)] at hc; simp at hc
  obtain ⟨o, ho, ho3⟩ : ∃ o : Nat, k = (o : Int) + 1 ∧ o < 3 := ⟨(k - 1).toNat, by omega, by omega⟩
  rw [ownR_ok ho ho3]
  have hR := O.rows o ho3
  refine a_seq (a_region ?_)
  refine a_v rfl (s_move (ev_t rfl)) ?_
  refine a_v rfl (s_cmp (ev_t rfl) ev_c rfl) ?_
  refine a_v rfl (s_move (ev_t rfl)) ?_
  refine a_f rfl (f_guard rfl (gd_b rfl (ev_t rfl)) fun h2 => s_move (ev_t rfl)) ?_
  refine a_f rfl (f_guard rfl (gd_b rfl (ev_t rfl)) fun h2 => s_move (ev_t rfl)) ?_
  refine a_f rfl (f_guard rfl (gd_b rfl (ev_t rfl)) fun h2 => s_lenA Try.us84 (ev_cond (ev_t rfl) h2) hR) ?_
  refine a_f rfl (f_guard rfl (gd_b rfl (ev_t rfl)) fun h2 => s_cmp (ev_cond (ev_t rfl) h2) (ev_cond (ev_t rfl) h2) rfl) ?_
  refine a_v rfl (s_pickor (ev_t rfl) (ev_t rfl)) ?_
  refine a_v rfl (s_assign (ev_t rfl)) ?_
  refine a_nil ?_
  refine a_cond (ev_t rfl) (fun hc => ?_) (fun hc => a_skip ?_)
  · have hbad : i < 0 ∨ (n o : Int) ≤ i := by simp at hc; omega
    refine a_seq (a_region ?_)
    refine a_v rfl (s_assign ev_c) ?_
    refine a_v rfl (s_assign ev_c) ?_
    refine a_nil ?_
    refine a_ret ?_
    exact ⟨[_, _], _, ⟨_, _, rfl, ev_t rfl, _, _, rfl, ev_t rfl, rfl⟩, View.le_refl _, (by rw [loadR_212 ho ho3 hbad]; rfl), rfl⟩
  obtain ⟨j, hj, hjn⟩ : ∃ j : Nat, i = (j : Int) ∧ j < n o := ⟨i.toNat, by simp at hc; omega, by simp at hc; omega⟩
  obtain ⟨r, cp, hX, hr, hrb, hput⟩ := O.put o j ho3 hjn
  rw [hX]
  repeat first | refine thenA_x ?_ | refine blockA_hit ?_ | refine blockA_x (by decide) ?_
  refine a_seq (a_region ?_)
  refine a_v rfl (s_move (ev_t rfl)) ?_
  refine a_v rfl (s_move (ev_t rfl)) ?_
  refine a_v rfl (s_idxs Try.sl84 (ev_t rfl) (ev_t rfl) (by omega) (by omega)) ?_
  refine a_v rfl (s_load Try.sh2 (ev_t rfl) hr (rdRow hjn _ (by omega))) ?_
  refine a_v rfl (s_assign (ev_t rfl)) ?_
  refine a_v rfl (s_assign ev_c) ?_
  refine a_nil ?_
  refine a_ret ?_
  exact ⟨[_, _], _, ⟨_, _, rfl, ev_t rfl, _, _, rfl, ev_t rfl, rfl⟩, View.le_refl _, (by rw [loadR_ok ho ho3 hj hjn]; rfl), rfl⟩
theorem mk_marks (O : Opened V b n c base ss V₀ bc cap X xm) : ACalls Try.prog 24 [pt b 0] V (One (iv ss.length) V) := by
  obtain ⟨cm, hM⟩ := O.marks
  refine a_fn (fn := Try.f24) Try.func24 rfl ?_ rfl
  refine a_seq (a_region ?_)
  refine a_v rfl (s_assign ev_c) ?_
  refine a_nil ?_
  refine a_seq (a_seq (a_region ?_))
  refine a_v rfl (s_move (ev_t rfl)) ?_
  refine a_v rfl (s_call Try.okM48 ev_f (.cons (ev_t rfl) .nil) (mk_is O.row)) ?_
  refine a_v rfl (s_not (ev_t rfl)) ?_
  refine a_nil ?_
  refine a_cond (ev_t rfl) (fun hc => absurd hc (by simp)) (fun hc => a_skip ?_)
  repeat first | refine thenA_x ?_ | refine blockA_hit ?_ | refine blockA_x (by decide) ?_
  refine a_seq (a_region ?_)
  refine a_v rfl (s_move (ev_t rfl)) ?_
  refine a_v rfl (s_nilCheck (ev_t rfl)) ?_
  refine a_v rfl (s_fieldAddr Try.f122_2 rfl (ev_t rfl)) ?_
  refine a_v rfl (s_load Try.sh120 (ev_t rfl) O.row rfl) ?_
  refine a_v rfl (s_lenA Try.us120 (ev_t rfl) hM) ?_
  refine a_v rfl (s_assign (ev_t rfl)) ?_
  refine a_nil ?_
  refine a_ret ?_
  exact ⟨[_], _, ⟨_, _, rfl, ev_t rfl, rfl⟩, View.le_refl _, rfl, rfl⟩
#print axioms mk_is
#print axioms mk_owner
#print axioms mk_load
#print axioms mk_marks
end Go.Proofs
