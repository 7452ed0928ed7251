/- Frames and records: the walk through frames that are read. -/
import Derived.Test.YtapelipehckbcaaFrF
set_option linter.unusedVariables false
set_option linter.unusedSimpArgs false
namespace Go.AV
/-- The digit at a place, or what it is at least. -/
def sdig (k : Nat) (r : List UInt8) (i : Nat) : Nat := if i < r.length then (r.getD i 0).toNat else if i = 0 then (if k = 1 then 247 else 1) else 0
def sizeGo (k : Nat) (r : List UInt8) : Nat → Nat → Nat → Option Nat
  | 0, _, n => some n
  | m + 1, i, n => if (i = 0 ∧ sdig k r i = 0) ∨ n * 256 + sdig k r i > 16384 then none else sizeGo k r m (i + 1) (n * 256 + sdig k r i)
def sizeF (b : List UInt8) : Nat × Bool × Int :=
  match b with
  | [] => (1, false, 0)
  | d :: r => if d.toNat ≤ 246 then (1 + d.toNat, true, 0) else
    match sizeGo (d.toNat - 246) r (d.toNat - 246) 0 0 with
    | none => (0, false, 31)
    | some n => if n ≤ 246 then (0, false, 31) else (1 + (d.toNat - 246) + n, decide (d.toNat - 246 < r.length + 1), 0)
theorem sizeGo_le (k : Nat) (r : List UInt8) : ∀ (m i n x : Nat), n ≤ 16384 → sizeGo k r m i n = some x → x ≤ 16384 := by
  intro m
  induction m with
  | zero => intro i n x hn h; simp only [sizeGo, Option.some.injEq] at h; omega
  | succ m ih =>
    intro i n x hn h
    rw [sizeGo] at h
    split at h
    · cases h
    · exact ih _ _ _ (by omega) h
theorem sdig_lt (k : Nat) (r : List UInt8) (i : Nat) : sdig k r i < 256 := by
  have := (r.getD i 0).toNat_lt
  unfold sdig; split
  · exact this
  · split
    · split <;> omega
    · omega
theorem sizeF_le (b : List UInt8) : (sizeF b).1 ≤ 16400 ∧ ((sizeF b).2.2 = 0 → 1 ≤ (sizeF b).1) := by
  unfold sizeF
  split
  · simp
  · rename_i d r
    have := d.toNat_lt
    split
    · simp; omega
    · split
      · simp
      · rename_i n hn
        have := sizeGo_le _ _ _ _ _ _ (by omega) hn
        split
        · simp
        · simp; omega
def headF (b : List UInt8) : Nat := 1 + ((b.headD 0).toNat - 246)
theorem headF_le {b : List UInt8} (h : (sizeF b).2.2 = 0) : headF b ≤ (sizeF b).1 := by
  cases b with
  | nil => show 1 + ((0 : UInt8).toNat - 246) ≤ 1; decide
  | cons d r =>
    have e : headF (d :: r) = 1 + (d.toNat - 246) := rfl
    rw [e]
    rw [sizeF] at h ⊢
    by_cases h1 : d.toNat ≤ 246
    · rw [if_pos h1]; show 1 + (d.toNat - 246) ≤ 1 + d.toNat; omega
    · rw [if_neg h1] at h ⊢
      cases hn : sizeGo (d.toNat - 246) r (d.toNat - 246) 0 0 with
      | none => rw [hn] at h; cases h
      | some n =>
        rw [hn] at h
        simp only at h ⊢
        by_cases h2 : n ≤ 246
        · rw [if_pos h2] at h; cases h
        · rw [if_neg h2]; exact Nat.le_add_right _ _
/-- What Read answers: a body, how many bytes its frame has, an error. -/
def readFr (b : List UInt8) : List UInt8 × Nat × Int :=
  if (sizeF b).2.2 ≠ 0 then ([], 0, (sizeF b).2.2) else if (sizeF b).2.1 = false ∨ (sizeF b).1 > b.length then ([], 0, 30) else ((b.take (sizeF b).1).drop (headF b), (sizeF b).1, 0)
theorem readFr_n (b : List UInt8) : (readFr b).2.1 ≤ b.length ∧ ((readFr b).2.2 = 0 → 0 < (readFr b).2.1) ∧ (readFr b).1.length ≤ 16400 := by
  have := sizeF_le b
  unfold readFr
  split
  · rename_i h; simp [h]
  · rename_i h
    split
    · simp
    · rename_i h2
      simp only [ne_eq, Decidable.not_not] at h
      simp at h2
      have := this.2 h
      simp; omega
def splitGo : Nat → List UInt8 → List (List UInt8) × List UInt8
  | 0, b => ([], b)
  | m + 1, b => if (readFr b).2.2 ≠ 0 then ([], b) else ((readFr b).1 :: (splitGo m (b.drop (readFr b).2.1)).1, (splitGo m (b.drop (readFr b).2.1)).2)
def splitF (b : List UInt8) : List (List UInt8) × List UInt8 := splitGo (b.length + 1) b
def splitE (b : List UInt8) : Int := if (splitF b).2 = [] then 0 else (readFr (splitF b).2).2.2
theorem splitGo_len : ∀ (m : Nat) (b : List UInt8), (splitGo m b).2.length ≤ b.length ∧ (splitGo m b).1.length + (splitGo m b).2.length ≤ b.length := by
  intro m
  induction m with
  | zero => intro b; simp [splitGo]
  | succ m ih =>
    intro b
    have h1 := readFr_n b
    have h2 := ih (b.drop (readFr b).2.1)
    rw [splitGo]
    split
    · simp
    · rename_i h
      simp only [ne_eq, Decidable.not_not] at h
      have := h1.2.1 h
      simp only [List.length_drop, List.length_cons] at h2 ⊢
      omega
def bysT (l : List (List UInt8)) : List AVal := l.map fun b => .tree 1 (byT b)
theorem bysT_len (l : List (List UInt8)) : (bysT l).length = l.length := by simp [bysT]
theorem bysG {l : List (List UInt8)} {i : Nat} (h : i < l.length) : (bysT l)[((i : Nat) : Int).toNat]? = some (.tree 1 (byT l[i])) := by simp [bysT, h]
theorem bysT_good (l : List (List UInt8)) : (bysT l).all (fun x => x.good && Nat.beq x.cells.length 1) = true := by
  rw [List.all_eq_true]; intro x hx; simp only [bysT, List.mem_map] at hx; obtain ⟨b, _, rfl⟩ := hx; rfl
theorem bysT_els (l : List (List UInt8)) : bysT l = (bysT l).flatMap AVal.cells := by
  induction l with
  | nil => rfl
  | cons a l ih => simp only [bysT, List.map_cons, List.flatMap_cons] at ih ⊢; rw [← ih]; rfl
end Go.AV
namespace Go.Proofs
open Go.AV
theorem fr_fsize {b : List UInt8} (hb : b.length ≤ 1099511627776) (V : View) : ACalls Try.prog 74 [.tree 1 (byT b)] V (One (.tuple [iv (sizeF b).1, bv (sizeF b).2.1, iv (sizeF b).2.2]) V) := by
  refine a_fn (fn := Try.f74) Try.func74 rfl ?_ rfl
  refine a_seq (a_region ?_)
  refine a_v rfl (s_assign ev_c) ?_
  refine a_v rfl (s_assign ev_c) ?_
  refine a_v rfl (s_assign ev_c) ?_
  refine a_nil ?_
  refine a_scope ?_
  refine a_seq (a_seq (a_region ?_))
  refine a_v rfl (s_move (ev_t rfl)) ?_
  refine a_v rfl (s_leny Try.us39 (ev_t rfl)) ?_
  refine a_v rfl (s_cmp (ev_t rfl) ev_c rfl) ?_
  refine a_nil ?_
  refine a_cond (ev_t rfl) (fun hc => ?_) (fun hc => a_skip ?_)
  · have he : b = [] := by simp at hc; exact hc
    subst he
    refine a_seq (a_region ?_)
    refine a_v rfl (s_assign ev_c) ?_
    refine a_v rfl (s_assign ev_c) ?_
    refine a_v rfl (s_assign ev_c) ?_
    refine a_nil ?_
    refine a_ret ?_
    exact ⟨[_, _, _], V, ⟨_, _, rfl, ev_t rfl, _, _, rfl, ev_t rfl, _, _, rfl, ev_t rfl, rfl⟩, View.le_refl _, by rfl, rfl⟩
  have hb0 : 0 < b.length := by
    rcases Nat.eq_zero_or_pos b.length with h | h
    · have := List.length_eq_zero_iff.1 h; subst this; simp at hc
    · exact h
  obtain ⟨d, r, rfl⟩ : ∃ d r, b = d :: r := by
    cases b with
    | nil => simp at hb0
    | cons d r => exact ⟨d, r, rfl⟩
  have hd := d.toNat_lt
  have hbd : bat (d :: r) 0 = (d.toNat : Int) := rfl
  simp only [List.length_cons] at hb
  refine a_seq (a_region ?_)
  refine a_v rfl (s_move (ev_t rfl)) ?_
  refine a_v rfl (s_idxt Try.sl39 (ev_t rfl) ev_c (by omega) (byGe (by simp) hbd)) ?_
  refine a_v rfl (s_loadr Try.sh5 rfl (ev_t rfl) (ref1 rfl)) ?_
  refine a_v rfl (s_convw ⟨_, Try.ui5⟩ Try.ui3 (ev_t rfl) (wrap64_id (by omega) (by omega))) ?_
  refine a_v rfl (s_sub (ev_t rfl) ev_c (by omega) (by omega)) ?_
  refine a_v rfl (s_assign (ev_t rfl)) ?_
  refine a_nil ?_
  refine a_seq (a_seq (a_region ?_))
  refine a_v rfl (s_move (ev_t rfl)) ?_
  refine a_v rfl (s_cmp (ev_t rfl) ev_c rfl) ?_
  refine a_nil ?_
  refine a_cond (ev_t rfl) (fun hc => ?_) (fun hc => a_skip ?_)
  · have hs : d.toNat ≤ 246 := by simp at hc; omega
    refine a_seq (a_region ?_)
    refine a_v rfl (s_move (ev_t rfl)) ?_
    refine a_v rfl (s_idxt Try.sl39 (ev_t rfl) ev_c (by omega) (byGe (by simp) hbd)) ?_
    refine a_v rfl (s_loadr Try.sh5 rfl (ev_t rfl) (ref1 rfl)) ?_
    refine a_v rfl (s_convw ⟨_, Try.ui5⟩ Try.ui3 (ev_t rfl) (wrap64_id (by omega) (by omega))) ?_
    refine a_v rfl (s_add ev_c (ev_t rfl) (by omega) (by omega)) ?_
    refine a_v rfl (s_assign (ev_t rfl)) ?_
    refine a_v rfl (s_assign ev_c) ?_
    refine a_v rfl (s_assign ev_c) ?_
    refine a_nil ?_
    refine a_ret ?_
    exact ⟨[_, _, _], V, ⟨_, _, rfl, ev_t rfl, _, _, rfl, ev_t rfl, _, _, rfl, ev_t rfl, rfl⟩, View.le_refl _, by simp [sizeF, hs, oneOf], rfl⟩
  have hs : 246 < d.toNat := by simp at hc; omega
  obtain ⟨k, hk⟩ : ∃ k, k = d.toNat - 246 := ⟨_, rfl⟩
  have hk' : (d.toNat : Int) - 246 = (k : Int) := by omega
  rw [hk']
  rw [sizeF, if_neg (by omega), ← hk]
  refine a_seq (a_region ?_)
  refine a_v rfl (s_move (ev_t rfl)) ?_
  refine a_v rfl (s_move (ev_t rfl)) ?_
  refine a_v rfl (s_leny Try.us39 (ev_t rfl)) ?_
  refine a_v rfl (s_cmp (ev_t rfl) (ev_t rfl) rfl) ?_
  refine a_v rfl (s_assign ev_c) ?_
  refine a_v rfl (s_assign (ev_t rfl)) ?_
  refine a_nil ?_
  refine a_seq (a_region ?_)
  refine a_v rfl (s_assign ev_c) ?_
  refine a_nil ?_
  refine a_seq (a_label ?_)
  refine a_seq (a_seq (a_region ?_))
  refine a_v rfl (s_move (ev_t rfl)) ?_
  refine a_v rfl (s_move ev_c) ?_
  refine a_nil ?_
  refine a_cut1 (fun st V₁ => ∃ (lt : List (Nat × AVal)) (n : Nat) (ok : Bool), st = ⟨lt, 82⟩ ∧ SubT [(5, iv k), (6, iv n), (7, bv (decide ((k : Int) < ((r.length : Int) + 1)))), (8, bv ok)] lt ∧ V₁ = V ∧ n ≤ 8000000 ∧ sizeGo k r k 0 0 = (if ok then some n else none)) ?_ ?_
  rotate_left
  · rintro st V₁ ⟨lt, n, ok, rfl, hs', rfl, hn, hg⟩
    refine a_forget hs' ?_
    refine a_seq (a_seq (a_region ?_))
    refine a_v rfl (s_move (ev_t rfl)) ?_
    refine a_v rfl (s_not (ev_t rfl)) ?_
    refine a_v rfl (s_move (ev_t rfl)) ?_
    refine a_f rfl (f_guard rfl (gd_b rfl (ev_t rfl)) fun h2 => s_move (ev_t rfl)) ?_
    refine a_f rfl (f_guard rfl (gd_b rfl (ev_t rfl)) fun h2 => s_cmp (ev_cond (ev_t rfl) h2) ev_c rfl) ?_
    refine a_v rfl (s_pickor (ev_t rfl) (ev_t rfl)) ?_
    refine a_nil ?_
    refine a_cond (ev_t rfl) (fun hc => ?_) (fun hc => a_skip ?_)
    · skip
      refine a_seq (a_region ?_)
      refine a_v rfl (s_assign ev_c) ?_
      refine a_v rfl (s_assign ev_c) ?_
      refine a_v rfl (s_assign ev_c) ?_
      refine a_nil ?_
      refine a_ret ?_
      refine ⟨[_, _, _], _, ⟨_, _, rfl, ev_t rfl, _, _, rfl, ev_t rfl, _, _, rfl, ev_t rfl, rfl⟩, View.le_refl _, ?_, rfl⟩
      rw [hg]
      cases ok with
      | false => rfl
      | true => simp at hc; simp [show n ≤ 246 by omega, oneOf]
    have hok : ok = true ∧ 246 < n := by
      cases ok with
      | false => simp at hc
      | true => simp at hc; exact ⟨rfl, by omega⟩
    obtain ⟨rfl, hn2⟩ := hok
    simp only [if_true] at hg
    rw [hg]
    simp only [show ¬ n ≤ 246 by omega, if_false]
    refine a_seq (a_region ?_)
    refine a_v rfl (s_move (ev_t rfl)) ?_
    refine a_v rfl (s_add ev_c (ev_t rfl) (by omega) (by omega)) ?_
    refine a_v rfl (s_move (ev_t rfl)) ?_
    refine a_v rfl (s_add (ev_t rfl) (ev_t rfl) (by omega) (by omega)) ?_
    refine a_v rfl (s_move (ev_t rfl)) ?_
    refine a_v rfl (s_assign (ev_t rfl)) ?_
    refine a_v rfl (s_assign (ev_t rfl)) ?_
    refine a_v rfl (s_assign ev_c) ?_
    refine a_nil ?_
    refine a_ret ?_
    refine ⟨[_, _, _], _, ⟨_, _, rfl, ev_t rfl, _, _, rfl, ev_t rfl, _, _, rfl, ev_t rfl, rfl⟩, View.le_refl _, ?_, rfl⟩
    simp [oneOf]; omega
  refine a_block ?_
  refine a_loop (fun n st V' => ∃ (i x : Nat) (lt : List (Nat × AVal)), k - i = n ∧ i ≤ k ∧ st = ⟨lt, 82⟩ ∧ SubT [(0, .tree 1 (byT (d :: r))), (5, iv k), (6, iv x), (7, bv (decide ((k : Int) < ((r.length : Int) + 1)))), (8, bv true), (30, iv k), (31, iv i)] lt ∧ V' = V ∧ x ≤ 16384 ∧ sizeGo k r k 0 0 = sizeGo k r (k - i) i x) ?_ k _ _ ⟨0, 0, _, by omega, by omega, rfl, ⟨rfl, rfl, rfl, rfl, rfl, rfl, rfl, trivial⟩, rfl, by omega, rfl⟩
  rintro n₁ st W ⟨i, x, lt, rfl, hi, rfl, hs', rfl, hx, hg⟩
  refine a_forget hs' ?_
  refine a_seq (a_region ?_)
  refine a_v rfl (s_cmp (ev_t rfl) (ev_t rfl) rfl) ?_
  refine a_nil ?_
  refine a_seq (a_cond (ev_t rfl) (fun hc => a_skip ?_) (fun hc => a_exit ?_))
  · have hi' : i < k := by simp at hc; omega
    rw [show k - i = (k - (i + 1)) + 1 by omega, sizeGo] at hg
    have hsd := sdig_lt k r i
    refine a_seq (a_block ?_)
    refine a_seq (a_region ?_)
    refine a_v rfl (s_move (ev_t rfl)) ?_
    refine a_v rfl (s_assign (ev_t rfl)) ?_
    refine a_nil ?_
    refine a_seq (a_region ?_)
    refine a_v rfl (s_assign ev_c) ?_
    refine a_nil ?_
    refine a_cut (fun st V₁ => ∃ (lt : List (Nat × AVal)), st = ⟨lt, 82⟩ ∧ SubT [(0, .tree 1 (byT (d :: r))), (5, iv k), (6, iv x), (7, bv (decide ((k : Int) < ((r.length : Int) + 1)))), (8, bv true), (9, iv i), (10, iv (sdig k r i)), (30, iv k), (31, iv i)] lt ∧ V₁ = W) ?_ ?_
    · refine a_block ?_
      refine a_seq (a_region ?_)
      refine a_v rfl (s_move (ev_t rfl)) ?_
      refine a_v rfl (s_add (ev_t rfl) ev_c (by omega) (by omega)) ?_
      refine a_v rfl (s_move (ev_t rfl)) ?_
      refine a_v rfl (s_leny Try.us39 (ev_t rfl)) ?_
      refine a_v rfl (s_cmp (ev_t rfl) (ev_t rfl) rfl) ?_
      refine a_v rfl (s_assign (ev_t rfl)) ?_
      refine a_nil ?_
      refine a_cond (ev_t rfl) (fun hc => ?_) (fun hc => ?_)
      · have hir : i < r.length := by simp at hc; omega
        have hsi : ((sdig k r i : Nat) : Int) = bat (d :: r) ((i : Int) + 1) := by
          rw [batE (i := i + 1) (by simp; omega) (by omega)]; simp [sdig, hir]
        refine a_region ?_
        refine a_v rfl (s_move (ev_t rfl)) ?_
        refine a_v rfl (s_move (ev_t rfl)) ?_
        refine a_v rfl (s_add (ev_t rfl) ev_c (by omega) (by omega)) ?_
        refine a_v rfl (s_idxt Try.sl39 (ev_t rfl) (ev_t rfl) (by omega) (byGe (by simp; omega) hsi.symm)) ?_
        refine a_v rfl (s_loadr Try.sh5 rfl (ev_t rfl) (ref1 rfl)) ?_
        refine a_v rfl (s_convw ⟨_, Try.ui5⟩ Try.ui3 (ev_t rfl) (wrap64_id (by omega) (by omega))) ?_
        refine a_v rfl (s_assign (ev_t rfl)) ?_
        refine a_nil ?_
        exact ⟨_, rfl, ⟨rfl, rfl, rfl, rfl, rfl, rfl, rfl, rfl, rfl, trivial⟩, rfl⟩
      have hir : ¬ i < r.length := by simp at hc; omega
      refine a_seq (a_region ?_)
      refine a_v rfl (s_move (ev_t rfl)) ?_
      refine a_v rfl (s_cmp (ev_t rfl) ev_c rfl) ?_
      refine a_v rfl (s_move (ev_t rfl)) ?_
      refine a_f rfl (f_guard rfl (gd_b rfl (ev_t rfl)) fun h2 => s_move (ev_t rfl)) ?_
      refine a_f rfl (f_guard rfl (gd_b rfl (ev_t rfl)) fun h2 => s_cmp (ev_cond (ev_t rfl) h2) ev_c rfl) ?_
      refine a_v rfl (s_pickand (ev_t rfl) (ev_t rfl)) ?_
      refine a_v rfl (s_assign (ev_t rfl)) ?_
      refine a_nil ?_
      refine a_cond (ev_t rfl) (fun hc => ?_) (fun hc => ?_)
      · have hsi : sdig k r i = 247 := by
          have hi0 : i = 0 := by simp at hc; omega
          have hk1 : k = 1 := by simp at hc; omega
          unfold sdig; rw [if_neg hir, if_pos hi0, if_pos hk1]
        rw [hsi]
        refine a_region ?_
        refine a_v rfl (s_assign ev_c) ?_
        refine a_nil ?_
        exact ⟨_, rfl, ⟨rfl, rfl, rfl, rfl, rfl, rfl, rfl, rfl, rfl, trivial⟩, rfl⟩
      refine a_seq (a_region ?_)
      refine a_v rfl (s_move (ev_t rfl)) ?_
      refine a_v rfl (s_cmp (ev_t rfl) ev_c rfl) ?_
      refine a_v rfl (s_assign (ev_t rfl)) ?_
      refine a_nil ?_
      refine a_cond (ev_t rfl) (fun hc2 => ?_) (fun hc2 => a_skip ?_)
      · have hsi : sdig k r i = 1 := by
          have hi0 : i = 0 := by simp at hc2; omega
          have hk1 : ¬ k = 1 := by simp at hc; omega
          unfold sdig; rw [if_neg hir, if_pos hi0, if_neg hk1]
        rw [hsi]
        refine a_region ?_
        refine a_v rfl (s_assign ev_c) ?_
        refine a_nil ?_
        exact ⟨_, rfl, ⟨rfl, rfl, rfl, rfl, rfl, rfl, rfl, rfl, rfl, trivial⟩, rfl⟩
      have hsi : sdig k r i = 0 := by
        have hi0 : ¬ i = 0 := by simp at hc2; omega
        unfold sdig; rw [if_neg hir, if_neg hi0]
      rw [hsi]
      exact ⟨_, rfl, ⟨rfl, rfl, rfl, rfl, rfl, rfl, rfl, rfl, rfl, trivial⟩, rfl⟩
    rintro st V₁ ⟨lt, rfl, hs', rfl⟩
    refine a_forget hs' ?_
    refine a_seq (a_region ?_)
    refine a_v rfl (s_move (ev_t rfl)) ?_
    refine a_v rfl (s_shlw (ev_t rfl) ev_c (by decide) (shl8i (by omega))) ?_
    refine a_v rfl (s_move (ev_t rfl)) ?_
    refine a_v rfl (s_bitsw (ev_t rfl) (ev_t rfl) (or8i (by omega) (by omega))) ?_
    refine a_v rfl (s_assign (ev_t rfl)) ?_
    refine a_nil ?_
    refine a_seq (a_region ?_)
    refine a_v rfl (s_move (ev_t rfl)) ?_
    refine a_v rfl (s_cmp (ev_t rfl) ev_c rfl) ?_
    refine a_v rfl (s_move (ev_t rfl)) ?_
    refine a_f rfl (f_guard rfl (gd_b rfl (ev_t rfl)) fun h2 => s_move (ev_t rfl)) ?_
    refine a_f rfl (f_guard rfl (gd_b rfl (ev_t rfl)) fun h2 => s_cmp (ev_cond (ev_t rfl) h2) ev_c rfl) ?_
    refine a_v rfl (s_pickand (ev_t rfl) (ev_t rfl)) ?_
    refine a_v rfl (s_move (ev_t rfl)) ?_
    refine a_f rfl (f_guard rfl (gd_b rfl (ev_t rfl)) fun h6 => s_move (ev_t rfl)) ?_
    refine a_f rfl (f_guard rfl (gd_b rfl (ev_t rfl)) fun h6 => s_cmp (ev_cond (ev_t rfl) h6) ev_c rfl) ?_
    refine a_v rfl (s_pickor (ev_t rfl) (ev_t rfl)) ?_
    refine a_nil ?_
    refine a_cond (ev_t rfl) (fun hc => ?_) (fun hc => a_skip ?_)
    · have hz : (i = 0 ∧ sdig k r i = 0) ∨ x * 256 + sdig k r i > 16384 := by
        simp at hc; omega
      rw [if_pos hz] at hg
      refine a_seq (a_region ?_)
      refine a_v rfl (s_assign ev_c) ?_
      refine a_nil ?_
      refine a_exit ?_
      repeat first | refine thenA_x ?_ | refine blockA_hit ?_ | refine blockA_x (by decide) ?_
      exact ⟨_, x * 256 + sdig k r i, false, rfl, ⟨rfl, rfl, rfl, rfl, trivial⟩, rfl, by omega, hg⟩
    have hz : ¬ ((i = 0 ∧ sdig k r i = 0) ∨ x * 256 + sdig k r i > 16384) := by
      simp at hc; omega
    rw [if_neg hz] at hg
    refine a_region ?_
    refine a_v rfl (s_add (ev_t rfl) ev_c (by omega) (by omega)) ?_
    refine a_v rfl (s_move (ev_t rfl)) ?_
    refine a_nil ?_
    exact ⟨k - (i + 1), by omega, i + 1, x * 256 + sdig k r i, _, rfl, by omega, rfl, ⟨rfl, rfl, rfl, rfl, rfl, rfl, rfl, trivial⟩, rfl, by omega, hg⟩
  repeat first | refine thenA_x ?_ | refine blockA_hit ?_ | refine blockA_x (by decide) ?_
  have hi' : i = k := by simp at hc; omega
  subst hi'
  rw [Nat.sub_self, sizeGo] at hg
  exact ⟨_, x, true, rfl, ⟨rfl, rfl, rfl, rfl, trivial⟩, rfl, by omega, hg⟩
#print axioms fr_fsize
theorem fr_fRead {b : List UInt8} (hb : b.length ≤ 1000000000) (V : View) : ACalls Try.prog 76 [.tree 1 (byT b)] V (One (.tuple [.tree 1 (byT (readFr b).1), iv (readFr b).2.1, iv (readFr b).2.2]) V) := by
  have hsz := sizeF_le b
  refine a_fn (fn := Try.f76) Try.func76 rfl ?_ rfl
  refine a_seq (a_region ?_)
  refine a_v rfl (s_assign ev_c) ?_
  refine a_v rfl (s_assign ev_c) ?_
  refine a_v rfl (s_assign ev_c) ?_
  refine a_nil ?_
  refine a_seq (a_region ?_)
  refine a_v rfl (s_move (ev_t rfl)) ?_
  refine a_v rfl (s_call Try.okF74 ev_f (.cons (ev_t rfl) .nil) (fr_fsize (by omega) _)) ?_
  refine a_v rfl (s_move (ev_t rfl)) ?_
  refine a_v rfl (s_extract (ev_t rfl) rfl) ?_
  refine a_v rfl (s_extract (ev_t rfl) rfl) ?_
  refine a_v rfl (s_extract (ev_t rfl) rfl) ?_
  refine a_v rfl (s_assign (ev_t rfl)) ?_
  refine a_v rfl (s_assign (ev_t rfl)) ?_
  refine a_v rfl (s_assign (ev_t rfl)) ?_
  refine a_nil ?_
  refine a_seq (a_block ?_)
  refine a_seq (a_region ?_)
  refine a_v rfl (s_move (ev_t rfl)) ?_
  refine a_v rfl (s_cmp (ev_t rfl) ev_c rfl) ?_
  refine a_v rfl (s_assign (ev_t rfl)) ?_
  refine a_nil ?_
  refine a_cond (ev_t rfl) (fun hc => ?_) (fun hc => ?_)
  · have hz : (sizeF b).2.2 ≠ 0 := by simpa using hc
    refine a_seq (a_region ?_)
    refine a_v rfl (s_move (ev_t rfl)) ?_
    refine a_v rfl (s_assign ev_c) ?_
    refine a_v rfl (s_assign ev_c) ?_
    refine a_v rfl (s_assign (ev_t rfl)) ?_
    refine a_nil ?_
    refine a_ret ?_
    exact ⟨[.tree 1 [], _, _], V, ⟨_, _, rfl, ev_nil (ev_t rfl), _, _, rfl, ev_t rfl, _, _, rfl, ev_t rfl, rfl⟩, View.le_refl _, by rw [readFr, if_pos hz]; rfl, rfl⟩
  have hz : ¬ (sizeF b).2.2 ≠ 0 := by simpa using hc
  refine a_seq (a_region ?_)
  refine a_v rfl (s_move (ev_t rfl)) ?_
  refine a_v rfl (s_not (ev_t rfl)) ?_
  refine a_v rfl (s_move (ev_t rfl)) ?_
  refine a_f rfl (f_guard rfl (gd_b rfl (ev_t rfl)) fun h2 => s_move (ev_t rfl)) ?_
  refine a_f rfl (f_guard rfl (gd_b rfl (ev_t rfl)) fun h2 => s_move (ev_t rfl)) ?_
  refine a_f rfl (f_guard rfl (gd_b rfl (ev_t rfl)) fun h2 => s_leny Try.us39 (ev_cond (ev_t rfl) h2)) ?_
  refine a_f rfl (f_guard rfl (gd_b rfl (ev_t rfl)) fun h2 => s_cmp (ev_cond (ev_t rfl) h2) (ev_cond (ev_t rfl) h2) rfl) ?_
  refine a_v rfl (s_pickor (ev_t rfl) (ev_t rfl)) ?_
  refine a_v rfl (s_assign (ev_t rfl)) ?_
  refine a_nil ?_
  refine a_cond (ev_t rfl) (fun hc => ?_) (fun hc => a_skip ?_)
  · have hz2 : (sizeF b).2.1 = false ∨ (sizeF b).1 > b.length := by simp at hc; omega
    refine a_seq (a_region ?_)
    refine a_v rfl (s_assign ev_c) ?_
    refine a_v rfl (s_assign ev_c) ?_
    refine a_v rfl (s_assign ev_c) ?_
    refine a_nil ?_
    refine a_ret ?_
    exact ⟨[.tree 1 [], _, _], V, ⟨_, _, rfl, ev_nil (ev_t rfl), _, _, rfl, ev_t rfl, _, _, rfl, ev_t rfl, rfl⟩, View.le_refl _, by rw [readFr, if_neg hz, if_pos hz2]; rfl, rfl⟩
  have hz2 : ¬ ((sizeF b).2.1 = false ∨ (sizeF b).1 > b.length) := by simp at hc; simp [hc]
  have hz3 := hsz.2 (by simpa using hz)
  have hz4 : (sizeF b).1 ≤ b.length := by
    rcases Nat.lt_or_ge b.length (sizeF b).1 with h | h
    · exact absurd (.inr h) hz2
    · exact h
  have hbd : bat b 0 = ((b.headD 0).toNat : Int) := by
    cases b with
    | nil => simp at hz4; omega
    | cons a r => rfl
  have hhd : (1 : Int) + max (((b.headD 0).toNat : Int) - 246) 0 = (headF b : Int) := by unfold headF; omega
  have hle : headF b ≤ (sizeF b).1 := headF_le (by simpa using hz)
  have hb8 := (b.headD 0).toNat_lt
  refine a_seq (a_region ?_)
  refine a_v rfl (s_move (ev_t rfl)) ?_
  refine a_v rfl (s_idxt Try.sl39 (ev_t rfl) ev_c (by omega) (byGe (by omega) hbd)) ?_
  refine a_v rfl (s_loadr Try.sh5 rfl (ev_t rfl) (ref1 rfl)) ?_
  refine a_v rfl (s_convw ⟨_, Try.ui5⟩ Try.ui3 (ev_t rfl) (wrap64_id (by omega) (by omega))) ?_
  refine a_v rfl (s_sub (ev_t rfl) ev_c (by omega) (by omega)) ?_
  refine a_v rfl (s_max (ev_t rfl) ev_c) ?_
  refine a_v rfl (hhd ▸ s_add ev_c (ev_t rfl) (by omega) (by omega)) ?_
  refine a_v rfl (s_assign (ev_t rfl)) ?_
  refine a_nil ?_
  refine a_seq (a_region ?_)
  refine a_v rfl (s_move (ev_t rfl)) ?_
  refine a_v rfl (s_move (ev_t rfl)) ?_
  refine a_v rfl (s_move (ev_t rfl)) ?_
  refine a_v rfl (s_slicety Try.sl39 (ev_t rfl) (bnd_t (ev_t rfl) (n := headF b) (by omega)) (bnd_t (ev_t rfl) (n := (sizeF b).1) (by omega)) (by omega) (by omega)) ?_
  refine a_v rfl (s_call Try.okF56 ev_f (.cons (ev_t rfl) .nil) (fr_clone (by simp; omega) _)) ?_
  refine a_v rfl (s_move (ev_t rfl)) ?_
  refine a_v rfl (s_assign (ev_t rfl)) ?_
  refine a_v rfl (s_assign (ev_t rfl)) ?_
  refine a_v rfl (s_assign ev_c) ?_
  refine a_nil ?_
  refine a_ret ?_
  refine ⟨[_, _, _], V, ⟨_, _, rfl, ev_t rfl, _, _, rfl, ev_t rfl, _, _, rfl, ev_t rfl, rfl⟩, View.le_refl _, ?_, rfl⟩
  rw [readFr, if_neg hz, if_neg hz2]; simp only [oneOf]
#print axioms fr_fRead
def needF (b : List UInt8) : Int × Int := if (sizeF b).2.2 ≠ 0 then (0, (sizeF b).2.2) else (max ((sizeF b).1 - b.length : Int) 0, 0)
theorem fr_need {b : List UInt8} (hb : b.length ≤ 1000000000) (V : View) : ACalls Try.prog 63 [.tree 1 (byT b)] V (One (.tuple [iv (needF b).1, iv (needF b).2]) V) := by
  have hsz := sizeF_le b
  refine a_fn (fn := Try.f63) Try.func63 rfl ?_ rfl
  refine a_seq (a_region ?_)
  refine a_v rfl (s_assign ev_c) ?_
  refine a_v rfl (s_assign ev_c) ?_
  refine a_nil ?_
  refine a_seq (a_region ?_)
  refine a_v rfl (s_move (ev_t rfl)) ?_
  refine a_v rfl (s_call Try.okF74 ev_f (.cons (ev_t rfl) .nil) (fr_fsize (by omega) _)) ?_
  refine a_v rfl (s_move (ev_t rfl)) ?_
  refine a_v rfl (s_extract (ev_t rfl) rfl) ?_
  refine a_v rfl (s_extract (ev_t rfl) rfl) ?_
  refine a_v rfl (s_extract (ev_t rfl) rfl) ?_
  refine a_v rfl (s_assign (ev_t rfl)) ?_
  refine a_v rfl (s_assign (ev_t rfl)) ?_
  refine a_v rfl (s_assign (ev_t rfl)) ?_
  refine a_nil ?_
  refine a_seq (a_seq (a_region ?_))
  refine a_v rfl (s_move (ev_t rfl)) ?_
  refine a_v rfl (s_cmp (ev_t rfl) ev_c rfl) ?_
  refine a_nil ?_
  refine a_cond (ev_t rfl) (fun hc => ?_) (fun hc => a_skip ?_)
  · have hz : (sizeF b).2.2 ≠ 0 := by simpa using hc
    refine a_seq (a_region ?_)
    refine a_v rfl (s_move (ev_t rfl)) ?_
    refine a_v rfl (s_assign ev_c) ?_
    refine a_v rfl (s_assign (ev_t rfl)) ?_
    refine a_nil ?_
    refine a_ret ?_
    exact ⟨[_, _], V, ⟨_, _, rfl, ev_t rfl, _, _, rfl, ev_t rfl, rfl⟩, View.le_refl _, by rw [needF, if_pos hz]; rfl, rfl⟩
  have hz : ¬ (sizeF b).2.2 ≠ 0 := by simpa using hc
  refine a_seq (a_region ?_)
  refine a_v rfl (s_move (ev_t rfl)) ?_
  refine a_v rfl (s_move (ev_t rfl)) ?_
  refine a_v rfl (s_leny Try.us39 (ev_t rfl)) ?_
  refine a_v rfl (s_sub (ev_t rfl) (ev_t rfl) (by omega) (by omega)) ?_
  refine a_v rfl (s_max (ev_t rfl) ev_c) ?_
  refine a_v rfl (s_assign (ev_t rfl)) ?_
  refine a_v rfl (s_assign ev_c) ?_
  refine a_nil ?_
  refine a_ret ?_
  exact ⟨[_, _], V, ⟨_, _, rfl, ev_t rfl, _, _, rfl, ev_t rfl, rfl⟩, View.le_refl _, by rw [needF, if_neg hz]; rfl, rfl⟩
#print axioms fr_need
end Go.Proofs
