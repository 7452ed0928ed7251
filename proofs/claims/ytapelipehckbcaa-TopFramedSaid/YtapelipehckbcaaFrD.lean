/- Frames and records: the walk through numbers that are read. -/
import Derived.Test.YtapelipehckbcaaFrC
set_option linter.unusedVariables false
set_option linter.unusedSimpArgs false
namespace Go.AV
variable {ρ : Option Nat} {P : Program} {Q : AQ} {st : ASt} {V : View} {o : Oper} {ops : Array Oper} {rest : List Oper}
  {d : Option Tmp} {ty : TypeId} {pos : String} {aft : Array Edge} {gd : Option (Nat × Bool)}
theorem xor0 {k : IntKind} {n : Int} (h : k.wrap n = n) (hk : k = .u64 ∨ k = .i64) : bitsOf .xor k n 0 = some n := by
  have h0 : BitVec.ofInt k.bits 0 = 0#_ := by simp
  simp only [bitsOf, h0, BitVec.xor_zero]
  rcases hk with rfl | rfl
  · rw [BitVec.toNat_ofInt]; simp only [IntKind.wrap, IntKind.bits, IntKind.signed] at h ⊢; simp at h ⊢; omega
  · rw [BitVec.toNat_ofInt]; simp only [IntKind.wrap, IntKind.bits, IntKind.signed] at h ⊢; simp at h ⊢; omega
theorem xor1u {n : Int} (h0 : 0 ≤ n) (h1 : n < 18446744073709551616) : bitsOf .xor .u64 n 18446744073709551615 = some (18446744073709551615 - n) := by
  have ha : BitVec.ofInt IntKind.u64.bits 18446744073709551615 = BitVec.allOnes _ := by decide
  simp only [bitsOf, ha, BitVec.xor_allOnes, BitVec.toNat_not, BitVec.toNat_ofInt]
  simp only [IntKind.wrap, IntKind.bits, IntKind.signed]; simp; omega
theorem xor1i {n : Int} (h0 : 0 ≤ n) (h1 : n < 9223372036854775808) : bitsOf .xor .i64 n (-1) = some (-1 - n) := by
  have ha : BitVec.ofInt IntKind.i64.bits (-1) = BitVec.allOnes _ := by decide
  simp only [bitsOf, ha, BitVec.xor_allOnes, BitVec.toNat_not, BitVec.toNat_ofInt]
  simp only [IntKind.wrap, IntKind.bits, IntKind.signed]; simp; omega
theorem and1u {n : Nat} (h1 : n < 18446744073709551616) : bitsOf .and .u64 (n : Int) 1 = some ((n % 2 : Nat) : Int) := by
  have h1' : (BitVec.ofInt IntKind.u64.bits (n : Int)).toNat = n := by
    rw [BitVec.ofInt_natCast, BitVec.toNat_ofNat, show 2 ^ IntKind.u64.bits = 18446744073709551616 from rfl]; omega
  have h2 : (BitVec.ofInt IntKind.u64.bits 1).toNat = 1 := by decide
  simp only [bitsOf, BitVec.toNat_and, h1', h2, Nat.and_one_is_mod]
  rw [wrapu64 (by omega) (by omega)]
theorem s_bitsw {op : BinOp} {t t' : TypeId} {y z : Operand} {k : IntKind} {i j r : Int} (hy : Ev st y (.v (.int k i))) (hz : Ev st z (.v (.int k j))) (hr : bitsOf op k i j = some r) :
    OpS ρ P ⟨d, .binOp op t y z t', ty, pos, aft, gd⟩ st V (One (.v (.int k r)) V) := s_bits hy hz hr
theorem s_negw {t : TypeId} {y : Operand} {k : IntKind} {i r : Int} (hy : Ev st y (.v (.int k i))) (e : k.wrap (0 - i) = r) : OpS ρ P ⟨d, .unOp .neg t y, ty, pos, aft, gd⟩ st V (One (.v (.int k r)) V) := e ▸ s_neg hy
def foldI (y : Int) : Int := if 0 ≤ y then 2 * y else -2 * y - 1
def unfoldN (x : Nat) : Int := if x % 2 = 0 then (x / 2 : Nat) else -1 - (x / 2 : Nat)
theorem unfold_fold {y : Int} : unfoldN (foldI y).toNat = y := by unfold unfoldN foldI; split <;> split <;> omega
theorem accUpd {V V₁ : View} {x : AVal} {sz n : Nat} {cs : List AVal} (h : Acc V x sz n cs V₁) {b : Nat} {o' : AObj} (o : AObj) (hb : V₁ b = some o') : Acc (V.set b o) x sz n cs (V₁.set b o) := by
  rcases h with ⟨h1, h2, h3, rfl⟩ | ⟨c, cap, h1, h0, h2, h3, h4, rfl⟩
  · exact .inl ⟨h1, h2, h3, rfl⟩
  · have hne : b ≠ c := by rintro rfl; simp at hb
    refine .inr ⟨c, cap, h1, by rw [View.set_other _ _ hne.symm]; exact h0, h2, h3, by rw [View.set_other _ _ hne.symm]; exact h4, ?_⟩
    funext i
    by_cases hi : i = b
    · subst hi; simp [View.drop, View.set, hne]
    · by_cases hi' : i = c
      · subst hi'; simp [View.drop, View.set, hi]
      · simp [View.drop, View.set, hi, hi']
def uvs (l : List Nat) : List AVal := l.map uv
theorem uvs_len (l : List Nat) : (uvs l).length = l.length := by simp [uvs]
theorem uvG {l : List Nat} {i : Nat} (h : i < l.length) : (uvs l)[((i : Nat) : Int).toNat]? = some (uv l[i]) := by simp [uvs, h]
theorem uvs_good (l : List Nat) : (uvs l).all (fun x => x.good && Nat.beq x.cells.length 1) = true := by
  rw [List.all_eq_true]; intro x hx; simp only [uvs, List.mem_map] at hx; obtain ⟨b, _, rfl⟩ := hx; rfl
theorem uvs_els (l : List Nat) : uvs l = (uvs l).flatMap AVal.cells := by induction l with
  | nil => rfl
  | cons a l ih => simp only [uvs, List.map_cons, List.flatMap_cons] at ih ⊢; rw [← ih]; rfl
def intF (most : Nat) (b : List UInt8) : Nat × Nat × Int :=
  if (readF b).2.2 ≠ 0 then (0, 0, (readF b).2.2) else if (readF b).1 > most then (0, 0, 12) else ((readF b).1, (readF b).2.1, 0)
def formsF (l : List Nat) : List UInt8 := l.flatMap form
end Go.AV
namespace Go.Proofs
open Go.AV
theorem fr_fold {y : Int} (h0 : -9223372036854775808 ≤ y) (h1 : y < 9223372036854775808) (V : View) : ACalls Try.prog 37 [iv y] V (One (.v (.int .u64 (foldI y))) V) := by
  refine a_fn (fn := Try.f37) Try.func37 rfl ?_ rfl
  refine a_seq (a_region ?_)
  refine a_v rfl (s_assign ev_c) ?_
  refine a_nil ?_
  by_cases hy : 0 ≤ y
  · have hf : foldI y = y * 2 := by rw [foldI, if_pos hy]; omega
    rw [hf]
    refine a_seq (a_region ?_)
    refine a_v rfl (s_move (ev_t rfl)) ?_
    refine a_v rfl (s_convw ⟨_, Try.ui2⟩ Try.ui45 (ev_t rfl) (wrapu64 (by omega) (by omega))) ?_
    refine a_v rfl (s_shlw (ev_t rfl) ev_c (by decide) (wrapu64 (i := y * 2) (by omega) (by omega))) ?_
    refine a_v rfl (s_move (ev_t rfl)) ?_
    refine a_v rfl (s_shrw (r := 0) (ev_t rfl) ev_c (by decide) (by simp [IntKind.bits] <;> (rw [Int.fdiv_eq_ediv_of_nonneg _ (by decide)]; omega))) ?_
    refine a_v rfl (s_convw ⟨_, Try.ui2⟩ Try.ui45 (ev_t rfl) (wrapu64 (by omega) (by omega))) ?_
    refine a_v rfl (s_bitsw (ev_t rfl) (ev_t rfl) (xor0 (wrapu64 (by omega) (by omega)) (.inl rfl))) ?_
    refine a_v rfl (s_assign (ev_t rfl)) ?_
    refine a_nil ?_
    refine a_ret ?_
    exact ⟨[_], V, ⟨_, _, rfl, ev_t rfl, rfl⟩, View.le_refl _, rfl, rfl⟩
  · have hf : foldI y = 18446744073709551615 - (y * 2 + 18446744073709551616) := by rw [foldI, if_neg hy]; omega
    rw [hf]
    refine a_seq (a_region ?_)
    refine a_v rfl (s_move (ev_t rfl)) ?_
    refine a_v rfl (s_convw ⟨_, Try.ui2⟩ Try.ui45 (ev_t rfl) (j := y + 18446744073709551616) (by simp [IntKind.wrap, IntKind.bits, IntKind.signed]; omega)) ?_
    refine a_v rfl (s_shlw (r := y * 2 + 18446744073709551616) (ev_t rfl) ev_c (by decide) (by simp [IntKind.wrap, IntKind.bits, IntKind.signed]; omega)) ?_
    refine a_v rfl (s_move (ev_t rfl)) ?_
    refine a_v rfl (s_shrw (r := -1) (ev_t rfl) ev_c (by decide) (by simp [IntKind.bits] <;> (rw [Int.fdiv_eq_ediv_of_nonneg _ (by decide)]; omega))) ?_
    refine a_v rfl (s_convw ⟨_, Try.ui2⟩ Try.ui45 (ev_t rfl) (j := 18446744073709551615) (by decide)) ?_
    refine a_v rfl (s_bitsw (ev_t rfl) (ev_t rfl) (xor1u (by omega) (by omega))) ?_
    refine a_v rfl (s_assign (ev_t rfl)) ?_
    refine a_nil ?_
    refine a_ret ?_
    exact ⟨[_], V, ⟨_, _, rfl, ev_t rfl, rfl⟩, View.le_refl _, rfl, rfl⟩
theorem fr_unfold {x : Nat} (h1 : x < 18446744073709551616) (V : View) : ACalls Try.prog 36 [uv x] V (One (iv (unfoldN x)) V) := by
  refine a_fn (fn := Try.f36) Try.func36 rfl ?_ rfl
  refine a_seq (a_region ?_)
  refine a_v rfl (s_assign ev_c) ?_
  refine a_nil ?_
  by_cases hy : x % 2 = 0
  · have hf : unfoldN x = (x / 2 : Nat) := by rw [unfoldN, if_pos hy]
    rw [hf]
    refine a_seq (a_region ?_)
    refine a_v rfl (s_move (ev_t rfl)) ?_
    refine a_v rfl (s_shrw (r := ((x / 2 : Nat) : Int)) (ev_t rfl) ev_c (by decide) (by simp [IntKind.bits] <;> (rw [Int.fdiv_eq_ediv_of_nonneg _ (by decide)]))) ?_
    refine a_v rfl (s_convw ⟨_, Try.ui45⟩ Try.ui2 (ev_t rfl) (wrap64_id (by omega) (by omega))) ?_
    refine a_v rfl (s_move (ev_t rfl)) ?_
    refine a_v rfl (s_bitsw (ev_t rfl) ev_c (and1u h1)) ?_
    refine a_v rfl (s_convw ⟨_, Try.ui45⟩ Try.ui2 (ev_t rfl) (wrap64_id (by omega) (by omega))) ?_
    refine a_v rfl (s_negw (r := 0) (ev_t rfl) (by rw [hy]; rfl)) ?_
    refine a_v rfl (s_bitsw (ev_t rfl) (ev_t rfl) (xor0 (wrap64_id (by omega) (by omega)) (.inr rfl))) ?_
    refine a_v rfl (s_assign (ev_t rfl)) ?_
    refine a_nil ?_
    refine a_ret ?_
    exact ⟨[_], V, ⟨_, _, rfl, ev_t rfl, rfl⟩, View.le_refl _, rfl, rfl⟩
  · have hf : unfoldN x = -1 - ((x / 2 : Nat) : Int) := by rw [unfoldN, if_neg hy]
    rw [hf]
    refine a_seq (a_region ?_)
    refine a_v rfl (s_move (ev_t rfl)) ?_
    refine a_v rfl (s_shrw (r := ((x / 2 : Nat) : Int)) (ev_t rfl) ev_c (by decide) (by simp [IntKind.bits] <;> (rw [Int.fdiv_eq_ediv_of_nonneg _ (by decide)]))) ?_
    refine a_v rfl (s_convw ⟨_, Try.ui45⟩ Try.ui2 (ev_t rfl) (wrap64_id (by omega) (by omega))) ?_
    refine a_v rfl (s_move (ev_t rfl)) ?_
    refine a_v rfl (s_bitsw (ev_t rfl) ev_c (and1u h1)) ?_
    refine a_v rfl (s_convw ⟨_, Try.ui45⟩ Try.ui2 (ev_t rfl) (wrap64_id (by omega) (by omega))) ?_
    refine a_v rfl (s_negw (r := -1) (ev_t rfl) (by rw [show x % 2 = 1 by omega]; rfl)) ?_
    refine a_v rfl (s_bitsw (ev_t rfl) (ev_t rfl) (xor1i (by omega) (by omega))) ?_
    refine a_v rfl (s_assign (ev_t rfl)) ?_
    refine a_nil ?_
    refine a_ret ?_
    exact ⟨[_], V, ⟨_, _, rfl, ev_t rfl, rfl⟩, View.le_refl _, rfl, rfl⟩
#print axioms fr_unfold
theorem fr_all {l : List Nat} (hl : l.length ≤ 1000000) (hx : ∀ x ∈ l, x < 18446744073709551616) (V : View) : ACalls Try.prog 39 [.tree 1 (uvs l)] V (One (.tree 1 (byT (formsF l))) V) := by
  refine a_fn (fn := Try.f39) Try.func39 rfl ?_ rfl
  refine a_seq (a_region ?_)
  refine a_v rfl (s_assign ev_c) ?_
  refine a_nil ?_
  refine a_seq (a_region ?_)
  refine a_v rfl (s_assign ev_c) ?_
  refine a_nil ?_
  refine a_seq (a_seq (a_region ?_))
  refine a_v rfl (s_move (ev_t rfl)) ?_
  refine a_v rfl (s_lent Try.us40 (ev_t rfl)) ?_
  refine a_v rfl (s_move ev_c) ?_
  refine a_nil ?_
  refine a_block ?_
  refine a_loop (fun n st V' => ∃ (i : Nat) (lt : List (Nat × AVal)) (b : AVal) (c : List UInt8) (V₁ : View), l.length - i = n ∧ i ≤ l.length ∧ c.length ≤ 9 * i ∧ st = ⟨lt, 17⟩ ∧ SubT [(3, b), (6, .tree 1 (uvs l)), (7, iv (uvs l).length), (8, iv i)] lt ∧ V.le V₁ ∧ Acc V' b 1 c.length (byT c) V₁ ∧ formsF l = c ++ formsF (l.drop i)) ?_ l.length _ _ ⟨0, _, _, [], V, rfl, by omega, by simp, rfl, ⟨rfl, rfl, rfl, rfl, trivial⟩, View.le_refl _, accNil, rfl⟩
  rintro n st W ⟨i, lt, b, c, V₁, rfl, hi, hcl, rfl, hs, hV, A4, hg⟩
  refine a_forget hs ?_
  refine a_seq (a_region ?_)
  refine a_v rfl (s_cmp (ev_t rfl) (ev_t rfl) rfl) ?_
  refine a_nil ?_
  refine a_seq (a_cond (ev_t rfl) (fun hc => a_skip ?_) (fun hc => a_exit ?_))
  · have hi' : i < l.length := by simp [uvs_len] at hc; omega
    have hx' := hx _ (List.getElem_mem hi')
    have hfl := form_len hx'
    have hr : formsF (l.drop i) = form l[i] ++ formsF (l.drop (i + 1)) := by rw [List.drop_eq_getElem_cons hi']; rfl
    refine a_seq (a_block ?_)
    refine a_seq (a_region ?_)
    refine a_v rfl (s_idxt Try.sl40 (ev_t rfl) (ev_t rfl) (by omega) (uvG hi')) ?_
    refine a_v rfl (s_loadr Try.sh45 rfl (ev_t rfl) (ref1 rfl)) ?_
    refine a_v rfl (s_assign (ev_t rfl)) ?_
    refine a_nil ?_
    refine a_region ?_
    refine a_v rfl (s_move (ev_t rfl)) ?_
    refine a_v rfl (s_move (ev_t rfl)) ?_
    refine a_vp rfl (s_call Try.okF54 ev_f (.cons (ev_t rfl) (.cons (ev_t rfl) .nil)) (fr_append (by omega) (by omega) A4)) fun xv Vv hx => ?_
    have A14 := hx
    refine a_v rfl (s_assign (ev_t rfl)) ?_
    refine a_nil ?_
    refine a_region ?_
    refine a_v rfl (s_add (ev_t rfl) ev_c (by omega) (by omega)) ?_
    refine a_v rfl (s_move (ev_t rfl)) ?_
    refine a_nil ?_
    exact ⟨l.length - (i + 1), by omega, i + 1, _, _, c ++ form l[i], _, rfl, by omega, by simp; omega, rfl, ⟨rfl, rfl, rfl, rfl, trivial⟩, hV, accCast A14 (by simp) (by simp [byT]), by rw [hg, hr]; simp⟩
  repeat first | refine thenA_x ?_ | refine blockA_hit ?_ | refine blockA_x (by decide) ?_
  have hi' : i = l.length := by simp [uvs_len] at hc; omega
  subst hi'
  have hg' : formsF l = c := by rw [hg, List.drop_length]; simp [formsF]
  refine a_seq (a_region ?_)
  refine a_v rfl (s_move (ev_t rfl)) ?_
  refine a_v rfl (s_assign (ev_t rfl)) ?_
  refine a_nil ?_
  obtain ⟨V2, h2, A6⟩ := accShrink A4 hV
  refine a_weaken h2 ?_
  refine a_acc_tree (t := 2) A6 (byT_els _) (byT_len _) (byT_good _) rfl ?_
  refine a_ret ?_
  exact ⟨[_], V, ⟨_, _, rfl, ev_t rfl, rfl⟩, View.le_refl _, by rw [hg']; rfl, rfl⟩
#print axioms fr_all
theorem fr_read {b : List UInt8} {at' : Nat} (ha : at' ≤ b.length) (hb : b.length ≤ 1099511627776) (V : View) :
    ACalls Try.prog 72 [.tree 1 (byT b), iv at'] V (One (.tuple [uv (readF (b.drop at')).1, iv (readF (b.drop at')).2.1, iv (readF (b.drop at')).2.2]) V) := by
  refine a_fn (fn := Try.f72) Try.func72 rfl ?_ rfl
  refine a_seq (a_region ?_)
  refine a_v rfl (s_assign ev_c) ?_
  refine a_v rfl (s_assign ev_c) ?_
  refine a_v rfl (s_assign ev_c) ?_
  refine a_nil ?_
  refine a_scope ?_
  refine a_seq (a_block ?_)
  refine a_seq (a_region ?_)
  refine a_v rfl (s_move (ev_t rfl)) ?_
  refine a_v rfl (s_cmp (ev_t rfl) ev_c rfl) ?_
  refine a_v rfl (s_move (ev_t rfl)) ?_
  refine a_f rfl (f_guard rfl (gd_b rfl (ev_t rfl)) fun h2 => s_move (ev_t rfl)) ?_
  refine a_f rfl (f_guard rfl (gd_b rfl (ev_t rfl)) fun h2 => s_move (ev_t rfl)) ?_
  refine a_f rfl (f_guard rfl (gd_b rfl (ev_t rfl)) fun h2 => s_leny Try.us39 (ev_cond (ev_t rfl) h2)) ?_
  refine a_f rfl (f_guard rfl (gd_b rfl (ev_t rfl)) fun h2 => s_cmp (ev_cond (ev_t rfl) h2) (ev_cond (ev_t rfl) h2) rfl) ?_
  refine a_v rfl (s_pickor (ev_t rfl) (ev_t rfl)) ?_
  refine a_v rfl (s_assign (ev_t rfl)) ?_
  refine a_nil ?_
  refine a_cond (ev_t rfl) (fun hc => ?_) (fun hc => ?_)
  · exfalso; simp at hc; omega
  refine a_seq (a_region ?_)
  refine a_v rfl (s_move (ev_t rfl)) ?_
  refine a_v rfl (s_move (ev_t rfl)) ?_
  refine a_v rfl (s_leny Try.us39 (ev_t rfl)) ?_
  refine a_v rfl (s_cmp (ev_t rfl) (ev_t rfl) rfl) ?_
  refine a_v rfl (s_assign (ev_t rfl)) ?_
  refine a_nil ?_
  refine a_cond (ev_t rfl) (fun hc => ?_) (fun hc => ?_)
  · have he : at' = b.length := by simp at hc; omega
    have hd : b.drop at' = [] := by rw [he, List.drop_length]
    rw [hd]
    refine a_seq (a_region ?_)
    refine a_v rfl (s_assign ev_c) ?_
    refine a_v rfl (s_assign ev_c) ?_
    refine a_v rfl (s_assign ev_c) ?_
    refine a_nil ?_
    refine a_ret ?_
    exact ⟨[_, _, _], V, ⟨_, _, rfl, ev_t rfl, _, _, rfl, ev_t rfl, _, _, rfl, ev_t rfl, rfl⟩, View.le_refl _, by rfl, rfl⟩
  have hlt : at' < b.length := by simp at hc; omega
  obtain ⟨d, r, hd, hdr⟩ : ∃ d r, b.drop at' = d :: r ∧ b[at'] = d := ⟨_, _, List.drop_eq_getElem_cons hlt, rfl⟩
  have hr : r = b.drop (at' + 1) := by rw [List.drop_eq_getElem_cons hlt] at hd; exact (List.cons.inj hd).2.symm
  have hrl : r.length = b.length - at' - 1 := by rw [hr]; simp; omega
  have hbd : bat b (at' : Int) = (d.toNat : Int) := by rw [batE hlt rfl, hdr]
  have hd256 := d.toNat_lt
  rw [hd]
  refine a_seq (a_region ?_)
  refine a_v rfl (s_move (ev_t rfl)) ?_
  refine a_v rfl (s_move (ev_t rfl)) ?_
  refine a_v rfl (s_idxt Try.sl39 (ev_t rfl) (ev_t rfl) (by omega) (byG (by omega))) ?_
  refine a_v rfl (s_loadr Try.sh5 rfl (ev_t rfl) (ref1 rfl)) ?_
  refine a_v rfl (s_cmp (ev_t rfl) ev_c rfl) ?_
  refine a_v rfl (s_assign (ev_t rfl)) ?_
  refine a_nil ?_
  refine a_cond (ev_t rfl) (fun hc => ?_) (fun hc => ?_)
  · have hs : d.toNat ≤ 246 := by simp [hbd] at hc; omega
    refine a_seq (a_region ?_)
    refine a_v rfl (s_move (ev_t rfl)) ?_
    refine a_v rfl (s_move (ev_t rfl)) ?_
    refine a_v rfl (s_idxt Try.sl39 (ev_t rfl) (ev_t rfl) (by omega) (byG (by omega))) ?_
    refine a_v rfl (s_loadr Try.sh5 rfl (ev_t rfl) (ref1 rfl)) ?_
    refine a_v rfl (s_convw ⟨_, Try.ui5⟩ Try.ui45 (ev_t rfl) (j := (d.toNat : Int)) (by rw [hbd]; exact wrapu64 (by omega) (by omega))) ?_
    refine a_v rfl (s_assign (ev_t rfl)) ?_
    refine a_v rfl (s_assign ev_c) ?_
    refine a_v rfl (s_assign ev_c) ?_
    refine a_nil ?_
    refine a_ret ?_
    exact ⟨[_, _, _], V, ⟨_, _, rfl, ev_t rfl, _, _, rfl, ev_t rfl, _, _, rfl, ev_t rfl, rfl⟩, View.le_refl _, by simp [readF, hs, oneOf], rfl⟩
  have hs : 246 < d.toNat := by simp [hbd] at hc; omega
  refine a_seq (a_region ?_)
  refine a_v rfl (s_move (ev_t rfl)) ?_
  refine a_v rfl (s_move (ev_t rfl)) ?_
  refine a_v rfl (s_idxt Try.sl39 (ev_t rfl) (ev_t rfl) (by omega) (byG (by omega))) ?_
  refine a_v rfl (s_loadr Try.sh5 rfl (ev_t rfl) (ref1 rfl)) ?_
  refine a_v rfl (s_cmp (ev_t rfl) ev_c rfl) ?_
  refine a_v rfl (s_assign (ev_t rfl)) ?_
  refine a_nil ?_
  refine a_cond (ev_t rfl) (fun hc => ?_) (fun hc => a_skip ?_)
  · have hs5 : d.toNat = 255 := by simp [hbd] at hc; omega
    refine a_seq (a_region ?_)
    refine a_v rfl (s_assign ev_c) ?_
    refine a_v rfl (s_assign ev_c) ?_
    refine a_v rfl (s_assign ev_c) ?_
    refine a_nil ?_
    refine a_ret ?_
    exact ⟨[_, _, _], V, ⟨_, _, rfl, ev_t rfl, _, _, rfl, ev_t rfl, _, _, rfl, ev_t rfl, rfl⟩, View.le_refl _, by simp [readF, hs5, oneOf], rfl⟩
  have hs5 : d.toNat ≠ 255 := by simp [hbd] at hc; omega
  rw [readF, if_neg (by omega), if_neg hs5]
  obtain ⟨k, hk⟩ : ∃ k, k = d.toNat - 246 := ⟨_, rfl⟩
  have hk' : (d.toNat : Int) - 246 = (k : Int) := by omega
  rw [← hk]
  refine a_seq (a_region ?_)
  refine a_v rfl (s_move (ev_t rfl)) ?_
  refine a_v rfl (s_move (ev_t rfl)) ?_
  refine a_v rfl (s_idxt Try.sl39 (ev_t rfl) (ev_t rfl) (by omega) (byG (by omega))) ?_
  refine a_v rfl (s_loadr Try.sh5 rfl (ev_t rfl) (ref1 rfl)) ?_
  refine a_v rfl (s_convw ⟨_, Try.ui5⟩ Try.ui3 (ev_t rfl) (j := (d.toNat : Int)) (by rw [hbd]; exact wrap64_id (by omega) (by omega))) ?_
  refine a_v rfl (hk' ▸ s_sub (ev_t rfl) ev_c (by omega) (by omega)) ?_
  refine a_v rfl (s_assign (ev_t rfl)) ?_
  refine a_nil ?_
  refine a_seq (a_seq (a_region ?_))
  refine a_v rfl (s_move (ev_t rfl)) ?_
  refine a_v rfl (s_leny Try.us39 (ev_t rfl)) ?_
  refine a_v rfl (s_move (ev_t rfl)) ?_
  refine a_v rfl (s_sub (ev_t rfl) (ev_t rfl) (by omega) (by omega)) ?_
  refine a_v rfl (s_sub (ev_t rfl) ev_c (by omega) (by omega)) ?_
  refine a_v rfl (s_move (ev_t rfl)) ?_
  refine a_v rfl (s_cmp (ev_t rfl) (ev_t rfl) rfl) ?_
  refine a_nil ?_
  refine a_cond (ev_t rfl) (fun hc => ?_) (fun hc => a_skip ?_)
  · have hs6 : r.length < k := by simp at hc; omega
    rw [if_pos hs6]
    refine a_seq (a_region ?_)
    refine a_v rfl (s_assign ev_c) ?_
    refine a_v rfl (s_assign ev_c) ?_
    refine a_v rfl (s_assign ev_c) ?_
    refine a_nil ?_
    refine a_ret ?_
    exact ⟨[_, _, _], V, ⟨_, _, rfl, ev_t rfl, _, _, rfl, ev_t rfl, _, _, rfl, ev_t rfl, rfl⟩, View.le_refl _, by rfl, rfl⟩
  have hs6 : k ≤ r.length := by simp at hc; omega
  rw [if_neg (by omega)]
  refine a_seq (a_region ?_)
  refine a_v rfl (s_assign ev_c) ?_
  refine a_nil ?_
  refine a_seq (a_region ?_)
  refine a_v rfl (s_assign ev_c) ?_
  refine a_nil ?_
  refine a_seq (a_label ?_)
  refine a_seq (a_seq (a_region ?_))
  refine a_v rfl (s_move (ev_t rfl)) ?_
  refine a_v rfl (s_move ev_c) ?_
  refine a_nil ?_
  refine a_cut1 (fun st V₁ => ∃ (lt : List (Nat × AVal)) (x : Nat) (e : Int), st = ⟨lt, 88⟩ ∧ SubT [(7, iv k), (8, uv x), (9, iv e)] lt ∧ V₁ = V ∧ x < 18446744073709551616 ∧ (r.headD 0 = 0 → e = 11) ∧ (r.headD 0 ≠ 0 → e = 0 ∧ x = undig (r.take k))) ?_ ?_
  rotate_left
  · rintro st V₁ ⟨lt, x, e, rfl, hs, rfl, hx, h1, h2⟩
    refine a_forget hs ?_
    refine a_seq (a_seq (a_region ?_))
    refine a_v rfl (s_move (ev_t rfl)) ?_
    refine a_v rfl (s_cmp (ev_t rfl) ev_c rfl) ?_
    refine a_v rfl (s_move (ev_t rfl)) ?_
    refine a_f rfl (f_guard rfl (gd_b rfl (ev_t rfl)) fun h2 => s_move (ev_t rfl)) ?_
    refine a_f rfl (f_guard rfl (gd_b rfl (ev_t rfl)) fun h2 => s_cmp (ev_cond (ev_t rfl) h2) ev_c rfl) ?_
    refine a_v rfl (s_pickor (ev_t rfl) (ev_t rfl)) ?_
    refine a_nil ?_
    refine a_cond (ev_t rfl) (fun hc => ?_) (fun hc => a_skip ?_)
    · have hz : r.headD 0 = 0 ∨ undig (r.take k) ≤ 246 := by
        by_cases h0 : r.headD 0 = 0
        · exact .inl h0
        · obtain ⟨h3, h4⟩ := h2 h0
          right; simp [h3] at hc; omega
      rw [if_pos hz]
      refine a_seq (a_region ?_)
      refine a_v rfl (s_assign ev_c) ?_
      refine a_v rfl (s_assign ev_c) ?_
      refine a_v rfl (s_assign ev_c) ?_
      refine a_nil ?_
      refine a_ret ?_
      exact ⟨[_, _, _], _, ⟨_, _, rfl, ev_t rfl, _, _, rfl, ev_t rfl, _, _, rfl, ev_t rfl, rfl⟩, View.le_refl _, by rfl, rfl⟩
    have hz : ¬ (r.headD 0 = 0 ∨ undig (r.take k) ≤ 246) := by
      simp at hc
      rintro (h0 | h0)
      · have := h1 h0; omega
      · by_cases h00 : r.headD 0 = 0
        · have := h1 h00; omega
        · have := (h2 h00).2; omega
    have hx' := (h2 (fun h => hz (.inl h))).2
    rw [if_neg hz, ← hx']
    refine a_seq (a_region ?_)
    refine a_v rfl (s_move (ev_t rfl)) ?_
    refine a_v rfl (s_move (ev_t rfl)) ?_
    refine a_v rfl (s_add (ev_t rfl) ev_c (by omega) (by omega)) ?_
    refine a_v rfl (s_assign (ev_t rfl)) ?_
    refine a_v rfl (s_assign (ev_t rfl)) ?_
    refine a_v rfl (s_assign ev_c) ?_
    refine a_nil ?_
    refine a_ret ?_
    exact ⟨[_, _, _], _, ⟨_, _, rfl, ev_t rfl, _, _, rfl, ev_t rfl, _, _, rfl, ev_t rfl, rfl⟩, View.le_refl _, by rfl, rfl⟩
  refine a_block ?_
  refine a_loop (fun n st V' => ∃ (i : Nat) (lt : List (Nat × AVal)), k - i = n ∧ i ≤ k ∧ st = ⟨lt, 88⟩ ∧ SubT [(0, .tree 1 (byT b)), (1, iv at'), (7, iv k), (8, uv (undig (r.take i))), (9, iv 0), (56, iv k), (57, iv i)] lt ∧ V' = V ∧ (0 < i → r.headD 0 ≠ 0)) ?_ k _ _ ⟨0, _, by omega, by omega, rfl, ⟨rfl, rfl, rfl, rfl, rfl, rfl, rfl, trivial⟩, rfl, by omega⟩
  rintro n st W ⟨i, lt, rfl, hi, rfl, hs', rfl, h0⟩
  refine a_forget hs' ?_
  refine a_seq (a_region ?_)
  refine a_v rfl (s_cmp (ev_t rfl) (ev_t rfl) rfl) ?_
  refine a_nil ?_
  refine a_seq (a_cond (ev_t rfl) (fun hc => a_skip ?_) (fun hc => a_exit ?_))
  · have hi' : i < k := by simp at hc; omega
    have hir : i < r.length := by omega
    have hbi : bat b ((at' : Int) + 1 + (i : Int)) = ((r[i]).toNat : Int) := by
      rw [batE (i := at' + 1 + i) (by omega) (by omega)]; simp [hr]
    have hri := (r[i]).toNat_lt
    have hlt := undig_lt (r.take i) 7 (by simp; omega)
    have htk : undig (r.take (i + 1)) = undig (r.take i) * 256 + (r[i]).toNat := by rw [List.take_succ_eq_append_getElem hir, undig_append]
    simp at hlt
    refine a_seq (a_block ?_)
    refine a_seq (a_region ?_)
    refine a_v rfl (s_move (ev_t rfl)) ?_
    refine a_v rfl (s_assign (ev_t rfl)) ?_
    refine a_nil ?_
    refine a_seq (a_region ?_)
    refine a_v rfl (s_move (ev_t rfl)) ?_
    refine a_v rfl (s_move (ev_t rfl)) ?_
    refine a_v rfl (s_add (ev_t rfl) ev_c (by omega) (by omega)) ?_
    refine a_v rfl (s_move (ev_t rfl)) ?_
    refine a_v rfl (s_add (ev_t rfl) (ev_t rfl) (by omega) (by omega)) ?_
    refine a_v rfl (s_idxt Try.sl39 (ev_t rfl) (ev_t rfl) (by omega) (byGe (by omega) hbi)) ?_
    refine a_v rfl (s_loadr Try.sh5 rfl (ev_t rfl) (ref1 rfl)) ?_
    refine a_v rfl (s_assign (ev_t rfl)) ?_
    refine a_nil ?_
    refine a_seq (a_seq (a_region ?_))
    refine a_v rfl (s_move (ev_t rfl)) ?_
    refine a_v rfl (s_cmp (ev_t rfl) ev_c rfl) ?_
    refine a_v rfl (s_move (ev_t rfl)) ?_
    refine a_f rfl (f_guard rfl (gd_b rfl (ev_t rfl)) fun h2 => s_move (ev_t rfl)) ?_
    refine a_f rfl (f_guard rfl (gd_b rfl (ev_t rfl)) fun h2 => s_cmp (ev_cond (ev_t rfl) h2) ev_c rfl) ?_
    refine a_v rfl (s_pickand (ev_t rfl) (ev_t rfl)) ?_
    refine a_nil ?_
    refine a_cond (ev_t rfl) (fun hc => ?_) (fun hc => a_skip ?_)
    · have hz : i = 0 ∧ (r[i]).toNat = 0 := by simp at hc; omega
      obtain ⟨rfl, hz⟩ := hz
      have hh : r.headD 0 = 0 := by
        cases r with
        | nil => rfl
        | cons a r => simp at hz ⊢; exact UInt8.toNat_inj.1 (by simpa using hz)
      refine a_seq (a_region ?_)
      refine a_v rfl (s_assign ev_c) ?_
      refine a_nil ?_
      refine a_exit ?_
      repeat first | refine thenA_x ?_ | refine blockA_hit ?_ | refine blockA_x (by decide) ?_
      exact ⟨_, _, 11, rfl, ⟨rfl, rfl, rfl, trivial⟩, rfl, by simp [undig], fun _ => rfl, fun h => absurd hh h⟩
    have hz : ¬ (i = 0 ∧ (r[i]).toNat = 0) := by simp at hc; omega
    refine a_region ?_
    refine a_v rfl (s_move (ev_t rfl)) ?_
    refine a_v rfl (s_shlw (ev_t rfl) ev_c (by decide) (shl8 (by omega))) ?_
    refine a_v rfl (s_move (ev_t rfl)) ?_
    refine a_v rfl (s_convw ⟨_, Try.ui5⟩ Try.ui45 (ev_t rfl) (wrapu64 (by omega) (by omega))) ?_
    refine a_v rfl (s_bitsw (ev_t rfl) (ev_t rfl) (or8 (by omega) (by omega))) ?_
    refine a_v rfl (s_assign (ev_t rfl)) ?_
    refine a_nil ?_
    refine a_region ?_
    refine a_v rfl (s_add (ev_t rfl) ev_c (by omega) (by omega)) ?_
    refine a_v rfl (s_move (ev_t rfl)) ?_
    refine a_nil ?_
    refine ⟨k - (i + 1), by omega, i + 1, _, rfl, by omega, rfl, ⟨rfl, rfl, rfl, by rw [htk]; rfl, rfl, rfl, rfl, trivial⟩, rfl, fun _ => ?_⟩
    rcases Nat.eq_zero_or_pos i with hi0 | hi0
    · subst hi0
      intro hh
      apply hz
      refine ⟨rfl, ?_⟩
      cases r with
      | nil => simp at hir
      | cons a r => simp at hh ⊢; rw [hh]; rfl
    · exact h0 hi0
  repeat first | refine thenA_x ?_ | refine blockA_hit ?_ | refine blockA_x (by decide) ?_
  have hi' : i = k := by simp at hc; omega
  subst hi'
  have hk0 : 0 < i := by omega
  exact ⟨_, _, _, rfl, ⟨rfl, rfl, rfl, trivial⟩, rfl, by have := undig_lt (r.take i) 8 (by simp; omega); simpa using this, fun h => absurd h (h0 hk0), fun _ => ⟨rfl, rfl⟩⟩
#print axioms fr_read
theorem fr_int {b : List UInt8} {at' most : Nat} (ha : at' ≤ b.length) (hb : b.length ≤ 1099511627776) (hm : most ≤ 1099511627776) (V : View) :
    ACalls Try.prog 70 [.tree 1 (byT b), iv at', iv 0, iv most] V (One (.tuple [iv (intF most (b.drop at')).1, iv (intF most (b.drop at')).2.1, iv (intF most (b.drop at')).2.2]) V) := by
  have hx := readF_lt (b.drop at')
  refine a_fn (fn := Try.f70) Try.func70 rfl ?_ rfl
  refine a_seq (a_region ?_)
  refine a_v rfl (s_assign ev_c) ?_
  refine a_v rfl (s_assign ev_c) ?_
  refine a_v rfl (s_assign ev_c) ?_
  refine a_nil ?_
  refine a_seq (a_region ?_)
  refine a_v rfl (s_move (ev_t rfl)) ?_
  refine a_v rfl (s_move (ev_t rfl)) ?_
  refine a_v rfl (s_call Try.okF72 ev_f (.cons (ev_t rfl) (.cons (ev_t rfl) .nil)) (fr_read (by omega) (by omega) _)) ?_
  refine a_v rfl (s_move (ev_t rfl)) ?_
  refine a_v rfl (s_extract (ev_t rfl) rfl) ?_
  refine a_v rfl (s_extract (ev_t rfl) rfl) ?_
  refine a_v rfl (s_extract (ev_t rfl) rfl) ?_
  refine a_v rfl (s_assign (ev_t rfl)) ?_
  refine a_v rfl (s_assign (ev_t rfl)) ?_
  refine a_v rfl (s_assign (ev_t rfl)) ?_
  refine a_nil ?_
  refine a_seq (a_block ?_)
  refine a_seq (a_region ?_)
  refine a_v rfl (s_move (ev_t rfl)) ?_
  refine a_v rfl (s_cmp (ev_t rfl) ev_c rfl) ?_
  refine a_v rfl (s_assign (ev_t rfl)) ?_
  refine a_nil ?_
  refine a_cond (ev_t rfl) (fun hc => ?_) (fun hc => ?_)
  · have hz : (readF (b.drop at')).2.2 ≠ 0 := by simpa using hc
    refine a_seq (a_region ?_)
    refine a_v rfl (s_move (ev_t rfl)) ?_
    refine a_v rfl (s_assign ev_c) ?_
    refine a_v rfl (s_assign ev_c) ?_
    refine a_v rfl (s_assign (ev_t rfl)) ?_
    refine a_nil ?_
    refine a_ret ?_
    exact ⟨[_, _, _], V, ⟨_, _, rfl, ev_t rfl, _, _, rfl, ev_t rfl, _, _, rfl, ev_t rfl, rfl⟩, View.le_refl _, by rw [intF, if_pos hz]; rfl, rfl⟩
  have hz : ¬ (readF (b.drop at')).2.2 ≠ 0 := by simpa using hc
  refine a_seq (a_region ?_)
  refine a_v rfl (s_move (ev_t rfl)) ?_
  refine a_v rfl (s_cmp (ev_t rfl) ev_c rfl) ?_
  refine a_v rfl (s_move (ev_t rfl)) ?_
  refine a_f rfl (f_guard rfl (gd_b rfl (ev_t rfl)) fun h2 => s_move (ev_t rfl)) ?_
  refine a_f rfl (f_guard rfl (gd_b rfl (ev_t rfl)) fun h2 => s_move (ev_t rfl)) ?_
  refine a_f rfl (f_guard rfl (gd_b rfl (ev_t rfl)) fun h2 => s_convw ⟨_, Try.ui3⟩ Try.ui45 (ev_cond (ev_t rfl) h2) (wrapu64 (by omega) (by omega))) ?_
  refine a_f rfl (f_guard rfl (gd_b rfl (ev_t rfl)) fun h2 => s_cmp (ev_cond (ev_t rfl) h2) (ev_cond (ev_t rfl) h2) rfl) ?_
  refine a_v rfl (s_pickor (ev_t rfl) (ev_t rfl)) ?_
  refine a_v rfl (s_move (ev_t rfl)) ?_
  refine a_f rfl (f_guard rfl (gd_b rfl (ev_t rfl)) fun h8 => s_move (ev_t rfl)) ?_
  refine a_f rfl (f_guard rfl (gd_b rfl (ev_t rfl)) fun h8 => s_cmp (ev_cond (ev_t rfl) h8) ev_c rfl) ?_
  refine a_f rfl (f_guard rfl (gd_b rfl (ev_t rfl)) fun h8 => s_move (ev_cond (ev_t rfl) h8)) ?_
  refine a_f rfl (f_guard rfl (gd_c rfl (ev_t rfl)) fun h11 => s_move (ev_t rfl)) ?_
  refine a_f rfl (f_guard rfl (gd_c rfl (ev_t rfl)) fun h11 => s_move (ev_t rfl)) ?_
  refine a_f rfl (f_guard rfl (gd_c rfl (ev_t rfl)) fun h11 => s_convw ⟨_, Try.ui3⟩ Try.ui45 (ev_cond (ev_t rfl) h11) (wrapu64 (by omega) (by omega))) ?_
  refine a_f rfl (f_guard rfl (gd_c rfl (ev_t rfl)) fun h11 => s_cmp (ev_cond (ev_t rfl) h11) (ev_cond (ev_t rfl) h11) rfl) ?_
  refine a_f rfl (f_guard rfl (gd_b rfl (ev_t rfl)) fun h8 => s_pickand (ev_cond (ev_t rfl) h8) (ev_and h8 (ev_t rfl))) ?_
  refine a_v rfl (s_pickor (ev_t rfl) (ev_t rfl)) ?_
  refine a_v rfl (s_assign (ev_t rfl)) ?_
  refine a_nil ?_
  refine a_cond (ev_t rfl) (fun hc => ?_) (fun hc => a_skip ?_)
  · have hz2 : (readF (b.drop at')).1 > most := by simp at hc; omega
    refine a_seq (a_region ?_)
    refine a_v rfl (s_assign ev_c) ?_
    refine a_v rfl (s_assign ev_c) ?_
    refine a_v rfl (s_assign ev_c) ?_
    refine a_nil ?_
    refine a_ret ?_
    exact ⟨[_, _, _], V, ⟨_, _, rfl, ev_t rfl, _, _, rfl, ev_t rfl, _, _, rfl, ev_t rfl, rfl⟩, View.le_refl _, by rw [intF, if_neg hz, if_pos hz2]; rfl, rfl⟩
  have hz2 : ¬ (readF (b.drop at')).1 > most := by simp at hc; omega
  refine a_seq (a_region ?_)
  refine a_v rfl (s_move (ev_t rfl)) ?_
  refine a_v rfl (s_convw ⟨_, Try.ui45⟩ Try.ui3 (ev_t rfl) (wrap64_id (by omega) (by omega))) ?_
  refine a_v rfl (s_move (ev_t rfl)) ?_
  refine a_v rfl (s_assign (ev_t rfl)) ?_
  refine a_v rfl (s_assign (ev_t rfl)) ?_
  refine a_v rfl (s_assign ev_c) ?_
  refine a_nil ?_
  refine a_ret ?_
  exact ⟨[_, _, _], V, ⟨_, _, rfl, ev_t rfl, _, _, rfl, ev_t rfl, _, _, rfl, ev_t rfl, rfl⟩, View.le_refl _, by rw [intF, if_neg hz, if_neg hz2]; simp only [Decidable.not_not] at hz; rfl, rfl⟩
#print axioms fr_int
end Go.Proofs
