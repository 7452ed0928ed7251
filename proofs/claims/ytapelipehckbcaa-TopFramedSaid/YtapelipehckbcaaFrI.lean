/- Frames and records: the walk through streams. -/
import Derived.Test.YtapelipehckbcaaFrH
set_option linter.unusedVariables false
set_option linter.unusedSimpArgs false
namespace Go.AV
theorem splitGo_drop : ∀ (m : Nat) (b : List UInt8), (splitGo m b).2 = b.drop (b.length - (splitGo m b).2.length) := by
  intro m
  induction m with
  | zero => intro b; simp [splitGo]
  | succ m ih =>
    intro b
    have h1 := readFr_n b
    have h2 := splitGo_len m (b.drop (readFr b).2.1)
    rw [splitGo]
    split
    · simp
    · have h3 := ih (b.drop (readFr b).2.1)
      simp only [List.length_drop] at h2 h3 ⊢
      rw [List.drop_drop] at h3
      rw [show b.length - (splitGo m (b.drop (readFr b).2.1)).2.length = (readFr b).2.1 + (b.length - (readFr b).2.1 - (splitGo m (b.drop (readFr b).2.1)).2.length) by omega]
      exact h3
theorem evEq {st : ASt} {o : Operand} {x y : AVal} (h : x = y) (e : Ev st o x) : Ev st o y := h ▸ e
theorem zeros8 (n : Nat) : (zeros (.int .u8 0) n).length = n := by simp [zeros, Value.cells]
end Go.AV
namespace Go.Proofs
open Go.AV
theorem fr_new (V : View) : ACalls Try.prog 58 [] V fun x V' => ∃ s, x = pt s 0 ∧ Str V' s [] 0 false V := by
  refine a_fn (fn := Try.f58) Try.func58 rfl ?_ rfl
  refine a_seq (a_region ?_)
  refine a_v rfl (s_assign ev_c) ?_
  refine a_nil ?_
  refine a_seq (a_region ?_)
  refine a_v rfl (s_build Try.z165 Try.pl165 (.cons ev_c .nil) rfl) ?_
  refine a_vp rfl (s_box (ev_t rfl) rfl) fun xv Vv hx => ?_
  obtain ⟨s, ns, rfl, rfl⟩ := hx
  have vs : V s = none := by simpa [View.set, ] using ns
  refine a_v rfl (s_assign (ev_t rfl)) ?_
  refine a_nil ?_
  refine a_ret ?_
  exact ⟨[_], _, ⟨_, _, rfl, ev_t rfl, rfl⟩, View.le_refl _, s, rfl, .v (.slice none 0 0), _, accNil, View.set_same _ _ _, by rw [View.drop_set, View.drop_none _ ns], ns⟩
theorem fr_none {s : Nat} {r : List AVal} {V : View} (h : V s = some (.row (bv true :: r))) : ACalls Try.prog 73 [pt s 0] V (One (bv false) V) := by
  refine a_fn (fn := Try.f73) Try.func73 rfl ?_ rfl
  refine a_seq (a_region ?_)
  refine a_v rfl (s_assign ev_c) ?_
  refine a_nil ?_
  refine a_seq (a_region ?_)
  refine a_v rfl (s_move (ev_t rfl)) ?_
  refine a_v rfl (s_pnil Try.up146 (ev_t rfl) (.inl ⟨rfl, rfl⟩)) ?_
  refine a_v rfl (s_move (ev_t rfl)) ?_
  refine a_f rfl (f_guard rfl (gd_b rfl (ev_t rfl)) fun h2 => s_move (ev_t rfl)) ?_
  refine a_f rfl (f_guard rfl (gd_b rfl (ev_t rfl)) fun h2 => s_nilCheck (ev_cond (ev_t rfl) h2)) ?_
  refine a_f rfl (f_guard rfl (gd_b rfl (ev_t rfl)) fun h2 => s_fieldAddr Try.f165_0 rfl (ev_cond (ev_t rfl) h2)) ?_
  refine a_f rfl (f_guard rfl (gd_b rfl (ev_t rfl)) fun h2 => s_load Try.sh4 (ev_cond (ev_t rfl) h2) (by simp [View.set, View.drop, h] <;> first | exact ⟨rfl, rfl⟩ | exact rfl) rfl) ?_
  refine a_f rfl (f_guard rfl (gd_b rfl (ev_t rfl)) fun h2 => s_not (ev_cond (ev_t rfl) h2)) ?_
  refine a_v rfl (s_pickor (ev_t rfl) (ev_t rfl)) ?_
  refine a_v rfl (s_assign (ev_t rfl)) ?_
  refine a_nil ?_
  refine a_ret ?_
  exact ⟨[_], _, ⟨_, _, rfl, ev_t rfl, rfl⟩, View.le_refl _, rfl, rfl⟩
theorem fr_dead {s : Nat} {x : AVal} {n : Int} {dead : Bool} {V : View} (h : V s = some (.row [bv true, x, iv n, bv dead])) : ACalls Try.prog 60 [pt s 0] V (One (bv dead) V) := by
  refine a_fn (fn := Try.f60) Try.func60 rfl ?_ rfl
  refine a_seq (a_region ?_)
  refine a_v rfl (s_assign ev_c) ?_
  refine a_nil ?_
  refine a_seq (a_region ?_)
  refine a_v rfl (s_move (ev_t rfl)) ?_
  refine a_v rfl (s_call Try.okF73 ev_f (.cons (ev_t rfl) .nil) (fr_none (by first | assumption | exact h))) ?_
  refine a_v rfl (s_not (ev_t rfl)) ?_
  refine a_v rfl (s_move (ev_t rfl)) ?_
  refine a_f rfl (f_guard rfl (gd_b rfl (ev_t rfl)) fun h3 => s_move (ev_t rfl)) ?_
  refine a_f rfl (f_guard rfl (gd_b rfl (ev_t rfl)) fun h3 => s_nilCheck (ev_cond (ev_t rfl) h3)) ?_
  refine a_f rfl (f_guard rfl (gd_b rfl (ev_t rfl)) fun h3 => s_fieldAddr Try.f165_3 rfl (ev_cond (ev_t rfl) h3)) ?_
  refine a_f rfl (f_guard rfl (gd_b rfl (ev_t rfl)) fun h3 => s_load Try.sh4 (ev_cond (ev_t rfl) h3) (by simp [View.set, View.drop, h] <;> first | exact ⟨rfl, rfl⟩ | exact rfl) rfl) ?_
  refine a_v rfl (s_pickand (ev_t rfl) (ev_t rfl)) ?_
  refine a_v rfl (s_assign (ev_t rfl)) ?_
  refine a_nil ?_
  refine a_ret ?_
  exact ⟨[_], _, ⟨_, _, rfl, ev_t rfl, rfl⟩, View.le_refl _, rfl, rfl⟩
theorem fr_framesN {s : Nat} {x : AVal} {n : Int} {dead : Bool} {V : View} (h : V s = some (.row [bv true, x, iv n, bv dead])) : ACalls Try.prog 61 [pt s 0] V (One (iv n) V) := by
  refine a_fn (fn := Try.f61) Try.func61 rfl ?_ rfl
  refine a_seq (a_region ?_)
  refine a_v rfl (s_assign ev_c) ?_
  refine a_nil ?_
  refine a_seq (a_seq (a_region ?_))
  refine a_v rfl (s_move (ev_t rfl)) ?_
  refine a_v rfl (s_call Try.okF73 ev_f (.cons (ev_t rfl) .nil) (fr_none (by first | assumption | exact h))) ?_
  refine a_nil ?_
  refine a_cond (ev_t rfl) (fun hc => ?_) (fun hc => a_skip ?_)
  · exfalso; simp at hc
  refine a_seq (a_region ?_)
  refine a_v rfl (s_move (ev_t rfl)) ?_
  refine a_v rfl (s_nilCheck (ev_t rfl)) ?_
  refine a_v rfl (s_fieldAddr Try.f165_2 rfl (ev_t rfl)) ?_
  refine a_v rfl (s_load Try.sh3 (ev_t rfl) (by simp [View.set, View.drop, h] <;> first | exact ⟨rfl, rfl⟩ | exact rfl) rfl) ?_
  refine a_v rfl (s_assign (ev_t rfl)) ?_
  refine a_nil ?_
  refine a_ret ?_
  exact ⟨[_], _, ⟨_, _, rfl, ev_t rfl, rfl⟩, View.le_refl _, rfl, rfl⟩
theorem fr_held {s n : Nat} {dead : Bool} {held : List UInt8} {x : AVal} {V : View} (h : V s = some (.row [bv true, x, iv n, bv dead])) (hR : Row V x 1 held.length (byT held)) : ACalls Try.prog 62 [pt s 0] V (One (iv held.length) V) := by
  refine a_fn (fn := Try.f62) Try.func62 rfl ?_ rfl
  refine a_seq (a_region ?_)
  refine a_v rfl (s_assign ev_c) ?_
  refine a_nil ?_
  refine a_seq (a_seq (a_region ?_))
  refine a_v rfl (s_move (ev_t rfl)) ?_
  refine a_v rfl (s_call Try.okF73 ev_f (.cons (ev_t rfl) .nil) (fr_none (by first | assumption | exact h))) ?_
  refine a_nil ?_
  refine a_cond (ev_t rfl) (fun hc => ?_) (fun hc => a_skip ?_)
  · exfalso; simp at hc
  refine a_seq (a_region ?_)
  refine a_v rfl (s_move (ev_t rfl)) ?_
  refine a_v rfl (s_nilCheck (ev_t rfl)) ?_
  refine a_v rfl (s_fieldAddr Try.f165_1 rfl (ev_t rfl)) ?_
  refine a_v rfl (s_load Try.sh39 (ev_t rfl) (by simp [View.set, View.drop, h] <;> first | exact ⟨rfl, rfl⟩ | exact rfl) rfl) ?_
  refine a_v rfl (s_lenA Try.us39 (ev_t rfl) hR) ?_
  refine a_v rfl (s_assign (ev_t rfl)) ?_
  refine a_nil ?_
  refine a_ret ?_
  exact ⟨[_], _, ⟨_, _, rfl, ev_t rfl, rfl⟩, View.le_refl _, rfl, rfl⟩
theorem fr_sneed {s n : Nat} {dead : Bool} {held : List UInt8} {V V₀ : View} (hS : Str V s held n dead V₀) (hl : held.length ≤ 1000000000) : ACalls Try.prog 64 [pt s 0] V (One (iv (if dead then 0 else (needF held).1)) V) := by
  obtain ⟨x, V₁, A0, h1, -, -⟩ := hS
  have h := accLe A0 _ _ h1
  refine a_fn (fn := Try.f64) Try.func64 rfl ?_ rfl
  refine a_seq (a_region ?_)
  refine a_v rfl (s_assign ev_c) ?_
  refine a_nil ?_
  refine a_seq (a_seq (a_region ?_))
  refine a_v rfl (s_move (ev_t rfl)) ?_
  refine a_v rfl (s_call Try.okF73 ev_f (.cons (ev_t rfl) .nil) (fr_none (by first | assumption | exact h))) ?_
  refine a_v rfl (s_move (ev_t rfl)) ?_
  refine a_f rfl (f_guard rfl (gd_b rfl (ev_t rfl)) fun h2 => s_move (ev_t rfl)) ?_
  refine a_f rfl (f_guard rfl (gd_b rfl (ev_t rfl)) fun h2 => s_nilCheck (ev_cond (ev_t rfl) h2)) ?_
  refine a_f rfl (f_guard rfl (gd_b rfl (ev_t rfl)) fun h2 => s_fieldAddr Try.f165_3 rfl (ev_cond (ev_t rfl) h2)) ?_
  refine a_f rfl (f_guard rfl (gd_b rfl (ev_t rfl)) fun h2 => s_load Try.sh4 (ev_cond (ev_t rfl) h2) (by simp [View.set, View.drop, h] <;> first | exact ⟨rfl, rfl⟩ | exact rfl) rfl) ?_
  refine a_v rfl (s_pickor (ev_t rfl) (ev_t rfl)) ?_
  refine a_nil ?_
  refine a_cond (ev_t rfl) (fun hc => ?_) (fun hc => a_skip ?_)
  · have hd : dead = true := by simpa using hc
    subst hd
    refine a_seq (a_region ?_)
    refine a_v rfl (s_assign ev_c) ?_
    refine a_nil ?_
    refine a_ret ?_
    exact ⟨[_], _, ⟨_, _, rfl, ev_t rfl, rfl⟩, View.le_refl _, rfl, rfl⟩
  have hd : dead = false := by simpa using hc
  subst hd
  refine a_seq (a_region ?_)
  refine a_v rfl (s_move (ev_t rfl)) ?_
  refine a_v rfl (s_nilCheck (ev_t rfl)) ?_
  refine a_v rfl (s_fieldAddr Try.f165_1 rfl (ev_t rfl)) ?_
  refine a_v rfl (s_load Try.sh39 (ev_t rfl) (by simp [View.set, View.drop, h] <;> first | exact ⟨rfl, rfl⟩ | exact rfl) rfl) ?_
  refine a_v rfl (s_call Try.okF63 ev_f (.cons (ev_t rfl) .nil) (ACalls.peekA (fr_need hl _) exact2 A0 (byT_els _) (byT_len _) (byT_good _))) ?_
  refine a_v rfl (s_move (ev_t rfl)) ?_
  refine a_v rfl (s_extract (ev_t rfl) rfl) ?_
  refine a_v rfl (s_extract (ev_t rfl) rfl) ?_
  refine a_v rfl (s_assign (ev_t rfl)) ?_
  refine a_v rfl (s_assign (ev_t rfl)) ?_
  refine a_nil ?_
  refine a_seq (a_region ?_)
  refine a_v rfl (s_move (ev_t rfl)) ?_
  refine a_v rfl (s_assign (ev_t rfl)) ?_
  refine a_nil ?_
  refine a_ret ?_
  exact ⟨[_], _, ⟨_, _, rfl, ev_t rfl, rfl⟩, View.le_refl _, rfl, rfl⟩
#print axioms fr_sneed
theorem fr_feed {s n : Nat} {held b : List UInt8} {V V₀ : View} (hS : Str V s held n false V₀) (hb : held.length + b.length ≤ 1000000000) (hn : n ≤ 1000000000000) :
    ACalls Try.prog 59 [pt s 0, .tree 1 (byT b)] V fun r V' => r = .tuple [.tree 1 (bysT (splitF (held ++ b)).1), iv (if splitE (held ++ b) = 31 then 31 else 0)] ∧
      (if splitE (held ++ b) = 31 then Str V' s [] (n + (splitF (held ++ b)).1.length) true V₀ else Str V' s (splitF (held ++ b)).2 (n + (splitF (held ++ b)).1.length) false V₀) := by
  obtain ⟨x, V₁, A0, h1, hd, h0⟩ := hS
  have h := accLe A0 _ _ h1
  have hsl := splitGo_len ((held ++ b).length + 1) (held ++ b)
  have hsd := splitGo_drop ((held ++ b).length + 1) (held ++ b)
  change (splitF (held ++ b)).2.length ≤ _ ∧ _ at hsl
  change (splitF (held ++ b)).2 = _ at hsd
  change _ ∧ (splitF (held ++ b)).1.length + (splitF (held ++ b)).2.length ≤ _ at hsl
  refine a_fn (fn := Try.f59) Try.func59 rfl ?_ rfl
  refine a_seq (a_region ?_)
  refine a_v rfl (s_assign ev_c) ?_
  refine a_v rfl (s_assign ev_c) ?_
  refine a_nil ?_
  refine a_seq (a_block ?_)
  refine a_seq (a_region ?_)
  refine a_v rfl (s_move (ev_t rfl)) ?_
  refine a_v rfl (s_call Try.okF73 ev_f (.cons (ev_t rfl) .nil) (fr_none (by first | assumption | exact h))) ?_
  refine a_v rfl (s_assign (ev_t rfl)) ?_
  refine a_nil ?_
  refine a_cond (ev_t rfl) (fun hc => ?_) (fun hc => ?_)
  · exfalso; simp at hc
  refine a_seq (a_region ?_)
  refine a_v rfl (s_move (ev_t rfl)) ?_
  refine a_v rfl (s_nilCheck (ev_t rfl)) ?_
  refine a_v rfl (s_fieldAddr Try.f165_3 rfl (ev_t rfl)) ?_
  refine a_v rfl (s_load Try.sh4 (ev_t rfl) (by simp [View.set, View.drop, h] <;> first | exact ⟨rfl, rfl⟩ | exact rfl) rfl) ?_
  refine a_v rfl (s_assign (ev_t rfl)) ?_
  refine a_nil ?_
  refine a_cond (ev_t rfl) (fun hc => ?_) (fun hc => a_skip ?_)
  · exfalso; simp at hc
  refine a_seq (a_region ?_)
  refine a_v rfl (s_move (ev_t rfl)) ?_
  refine a_v rfl (s_nilCheck (ev_t rfl)) ?_
  refine a_v rfl (s_fieldAddr Try.f165_1 rfl (ev_t rfl)) ?_
  refine a_v rfl (s_load Try.sh39 (ev_t rfl) (by simp [View.set, View.drop, h] <;> first | exact ⟨rfl, rfl⟩ | exact rfl) rfl) ?_
  refine a_v rfl (s_move (ev_t rfl)) ?_
  refine a_vp rfl (OpS.freeze (s_acc Try.sl39 Try.src39 Try.z5 rfl Try.by5 (ev_t rfl) A0 (src_by (ev_t rfl)) (byT_one _) (by omega) (by omega)) (els := byT (held ++ b)) (by rw [← byT_els, byT_app]) (by simp [byT]) (byT_good _)) fun xv Vv hx => ?_
  obtain ⟨rfl, hVV⟩ := hx; have hVV := hVV.symm; subst hVV
  refine a_v rfl (s_assign (ev_t rfl)) ?_
  refine a_nil ?_
  refine a_seq (a_region ?_)
  refine a_v rfl (s_move (ev_t rfl)) ?_
  refine a_v rfl (s_call Try.okF65 ev_f (.cons (ev_t rfl) .nil) (fr_fsplit (by simp; omega) _)) ?_
  refine a_v rfl (s_move (ev_t rfl)) ?_
  refine a_v rfl (s_extract (ev_t rfl) rfl) ?_
  refine a_v rfl (s_extract (ev_t rfl) rfl) ?_
  refine a_v rfl (s_extract (ev_t rfl) rfl) ?_
  refine a_v rfl (s_assign (ev_t rfl)) ?_
  refine a_v rfl (s_assign (ev_t rfl)) ?_
  refine a_v rfl (s_assign (ev_t rfl)) ?_
  refine a_nil ?_
  refine a_seq (a_region ?_)
  refine a_v rfl (s_move (ev_t rfl)) ?_
  refine a_v rfl (s_nilCheck (ev_t rfl)) ?_
  refine a_v rfl (s_fieldAddr Try.f165_2 rfl (ev_t rfl)) ?_
  refine a_v rfl (s_load Try.sh3 (ev_t rfl) (by simp [View.set, View.drop, h1] <;> first | exact ⟨rfl, rfl⟩ | exact rfl) rfl) ?_
  refine a_v rfl (s_move (ev_t rfl)) ?_
  refine a_v rfl (s_lent Try.us88 (ev_t rfl)) ?_
  refine a_v rfl (s_add (ev_t rfl) (ev_t rfl) (by simp only [bysT_len]; simp at hsl; omega) (by simp only [bysT_len]; simp at hsl; omega)) ?_
  refine a_v rfl (s_nilCheck (ev_t rfl)) ?_
  refine a_v rfl (s_fieldAddr Try.f165_2 rfl (ev_t rfl)) ?_
  refine a_s (s_storew Try.sh3 (ev_t rfl) (ev_t rfl) (by simp [View.set, View.drop, h1] <;> first | exact ⟨rfl, rfl⟩ | exact rfl) rfl rfl (by first | decide | (simp; done) | (simp; omega)) (cs' := [bv true, x, iv ((n : Int) + ((bysT (splitF (held ++ b)).1).length : Int)), bv false]) rfl) ?_
  refine a_nil ?_
  refine a_seq (a_seq (a_region ?_))
  refine a_v rfl (s_move (ev_t rfl)) ?_
  refine a_v rfl (s_cmp (ev_t rfl) ev_c rfl) ?_
  refine a_nil ?_
  rw [bysT_len]
  refine a_cond (ev_t rfl) (fun hc => ?_) (fun hc => a_skip ?_)
  · have he : splitE (held ++ b) = 31 := by simpa using hc
    rw [if_pos he]
    refine a_seq (a_region ?_)
    refine a_v rfl (s_move (ev_t rfl)) ?_
    refine a_v rfl (s_move (ev_t rfl)) ?_
    refine a_v rfl (s_nilCheck (ev_t rfl)) ?_
    refine a_v rfl (s_fieldAddr Try.f165_1 rfl (ev_t rfl)) ?_
    refine a_s (s_storew Try.sh39 (ev_t rfl) ev_c (by simp [View.set, View.drop, h1] <;> first | exact ⟨rfl, rfl⟩ | exact rfl) rfl rfl (by first | decide | (simp; done) | (simp; omega)) (cs' := [bv true, .v (.slice none 0 0), iv ((n : Int) + ((splitF (held ++ b)).1.length : Int)), bv false]) rfl) ?_
    refine a_v rfl (s_nilCheck (ev_t rfl)) ?_
    refine a_v rfl (s_fieldAddr Try.f165_3 rfl (ev_t rfl)) ?_
    refine a_s (s_storew Try.sh4 (ev_t rfl) ev_c (by simp [View.set, View.drop, h1] <;> first | exact ⟨rfl, rfl⟩ | exact rfl) rfl rfl (by first | decide | (simp; done) | (simp; omega)) (cs' := [bv true, .v (.slice none 0 0), iv ((n : Int) + ((splitF (held ++ b)).1.length : Int)), bv true]) rfl) ?_
    refine a_nil ?_
    refine a_seq (a_region ?_)
    refine a_v rfl (s_move (ev_t rfl)) ?_
    refine a_v rfl (s_move (ev_t rfl)) ?_
    refine a_v rfl (s_assign (ev_t rfl)) ?_
    refine a_v rfl (s_assign (ev_t rfl)) ?_
    refine a_nil ?_
    refine a_ret ?_
    refine ⟨[_, _], _, ⟨_, _, rfl, ev_t rfl, _, _, rfl, ev_t rfl, rfl⟩, View.le_refl _, by rw [he]; rfl, ?_⟩
    rw [if_pos he]
    exact ⟨.v (.slice none 0 0), _, accNil, by rw [View.set_same]; push_cast; rfl, by rw [View.drop_set, View.drop_set, View.drop_set]; exact hd, h0⟩
  have he : splitE (held ++ b) ≠ 31 := by simpa using hc
  rw [if_neg he]
  have hL1 : (held ++ b).length ≤ 1000000000 := by simp; omega
  have heq : ((held ++ b).length : Int) - (((held ++ b).length : Int) - ((splitF (held ++ b)).2.length : Int)) = ((splitF (held ++ b)).2.length : Int) := by omega
  refine a_seq (a_region ?_)
  refine a_v rfl (s_move (ev_t rfl)) ?_
  refine a_v rfl (s_leny Try.us39 (ev_t rfl)) ?_
  refine a_v rfl (s_move (ev_t rfl)) ?_
  refine a_v rfl (heq ▸ s_sub (ev_t rfl) (ev_t rfl) (by omega) (by omega)) ?_
  refine a_vp rfl (s_make Try.sl39 Try.z5 rfl Try.by5 (ev_t rfl) (ev_t rfl) (by omega) (by omega)) fun xv Vv hx => ?_
  obtain ⟨b10, nb10, rfl, rfl⟩ := hx
  refine a_v rfl (s_assign (ev_t rfl)) ?_
  refine a_nil ?_
  have e10s : ¬ b10 = s := by rintro rfl; simp at nb10
  have e10s' : ¬ s = b10 := fun h => e10s h.symm
  have hcp : ((held ++ b).take (held ++ b).length).drop ((held ++ b).length - (splitF (held ++ b)).2.length) = (splitF (held ++ b)).2 := by rw [List.take_length]; exact hsd.symm
  have hmk : ((zeros (.int .u8 0) (splitF (held ++ b)).2.length).map AVal.v).length = (splitF (held ++ b)).2.length := by simp [zeros8]
  refine a_seq (a_region ?_)
  refine a_v rfl (s_move (ev_t rfl)) ?_
  refine a_v rfl (s_move (ev_t rfl)) ?_
  refine a_v rfl (s_move (ev_t rfl)) ?_
  refine a_v rfl (s_slicety Try.sl39 (ev_t rfl) (bnd_t (ev_t rfl) (n := (held ++ b).length - (splitF (held ++ b)).2.length) (by omega)) rfl (by omega) (by omega)) ?_
  refine a_vp rfl (s_copy Try.sl39 (ev_t rfl) (View.set_same _ _ _) (src_by (bs := (splitF (held ++ b)).2) (evEq (congrArg (fun l => AVal.tree 1 (byT l)) hcp) (ev_t rfl))) (byT_one _) (by omega) (by rw [hmk]; omega) (by simp [byT])) fun xv Vv hx => ?_
  obtain ⟨rfl, rfl⟩ := hx
  refine a_nil ?_
  rw [wrcAll (by rw [hmk, byT_len]), View.set_set]
  refine a_seq (a_region ?_)
  refine a_v rfl (s_move (ev_t rfl)) ?_
  refine a_v rfl (s_move (ev_t rfl)) ?_
  refine a_v rfl (s_nilCheck (ev_t rfl)) ?_
  refine a_v rfl (s_fieldAddr Try.f165_1 rfl (ev_t rfl)) ?_
  refine a_s (s_storew Try.sh39 (ev_t rfl) (ev_t rfl) (by simp [View.set, View.drop, h1, e10s, e10s'] <;> first | exact ⟨rfl, rfl⟩ | exact rfl) rfl rfl (by first | decide | (simp; done) | (simp; omega)) (cs' := [bv true, .v (.slice (some ⟨b10, 0, none⟩) (splitF (held ++ b)).2.length (splitF (held ++ b)).2.length), iv ((n : Int) + ((splitF (held ++ b)).1.length : Int)), bv false]) rfl) ?_
  refine a_nil ?_
  refine a_seq (a_region ?_)
  refine a_v rfl (s_move (ev_t rfl)) ?_
  refine a_v rfl (s_assign (ev_t rfl)) ?_
  refine a_v rfl (s_assign ev_c) ?_
  refine a_nil ?_
  refine a_ret ?_
  refine ⟨[_, _], _, ⟨_, _, rfl, ev_t rfl, _, _, rfl, ev_t rfl, rfl⟩, View.le_refl _, rfl, ?_⟩
  rw [if_neg he]
  have hW : ∀ r2, ((V₁.set s (.rown [bv true, x, iv ((n : Int) + ((splitF (held ++ b)).1.length : Int)), bv false] none)).set b10 (.rown (byT (splitF (held ++ b)).2) (some ((zeros (.int .u8 0) (splitF (held ++ b)).2.length).length)))).set s r2 =
      ((V₁.set s (.rown [bv true, x, iv ((n : Int) + ((splitF (held ++ b)).1.length : Int)), bv false] none)).set s r2).set b10 (.rown (byT (splitF (held ++ b)).2) (some ((zeros (.int .u8 0) (splitF (held ++ b)).2.length).length))) := by
    intro r2; funext i
    by_cases h1 : i = s <;> by_cases h2 : i = b10 <;> simp [View.set, h1, h2, e10s, e10s']
  rw [hW]
  have nb : ((V₁.set s (.rown [bv true, x, iv ((n : Int) + ((splitF (held ++ b)).1.length : Int)), bv false] none)).set s (.row [bv true, .v (.slice (some ⟨b10, 0, none⟩) (splitF (held ++ b)).2.length (splitF (held ++ b)).2.length), iv ((n : Int) + ((splitF (held ++ b)).1.length : Int)), bv false])) b10 = none := by
    simp only [View.set, e10s, if_false] at nb10 ⊢; exact nb10
  refine ⟨_, _, .inr ⟨b10, (splitF (held ++ b)).2.length, Nat.le_refl _, nb, rfl, by simp [byT], by simp [zeros8], by rw [View.drop_set, View.drop_none _ nb]⟩, ?_, ?_, h0⟩
  · rw [View.set_same]; push_cast; rfl
  · rw [View.drop_set, View.drop_set]; exact hd
#print axioms fr_feed
theorem fr_feedD {s n : Nat} {b : List UInt8} {V V₀ : View} (hS : Str V s [] n true V₀) : ACalls Try.prog 59 [pt s 0, .tree 1 (byT b)] V (One (.tuple [.tree 1 [], iv 31]) V) := by
  obtain ⟨x, V₁, A0, h1, hd, h0⟩ := hS
  have h := accLe A0 _ _ h1
  refine a_fn (fn := Try.f59) Try.func59 rfl ?_ rfl
  refine a_seq (a_region ?_)
  refine a_v rfl (s_assign ev_c) ?_
  refine a_v rfl (s_assign ev_c) ?_
  refine a_nil ?_
  refine a_seq (a_block ?_)
  refine a_seq (a_region ?_)
  refine a_v rfl (s_move (ev_t rfl)) ?_
  refine a_v rfl (s_call Try.okF73 ev_f (.cons (ev_t rfl) .nil) (fr_none (by first | assumption | exact h))) ?_
  refine a_v rfl (s_assign (ev_t rfl)) ?_
  refine a_nil ?_
  refine a_cond (ev_t rfl) (fun hc => ?_) (fun hc => ?_)
  · exfalso; simp at hc
  refine a_seq (a_region ?_)
  refine a_v rfl (s_move (ev_t rfl)) ?_
  refine a_v rfl (s_nilCheck (ev_t rfl)) ?_
  refine a_v rfl (s_fieldAddr Try.f165_3 rfl (ev_t rfl)) ?_
  refine a_v rfl (s_load Try.sh4 (ev_t rfl) (by simp [View.set, View.drop, h] <;> first | exact ⟨rfl, rfl⟩ | exact rfl) rfl) ?_
  refine a_v rfl (s_assign (ev_t rfl)) ?_
  refine a_nil ?_
  refine a_cond (ev_t rfl) (fun hc => ?_) (fun hc => ?_)
  · skip
    refine a_seq (a_region ?_)
    refine a_v rfl (s_assign ev_c) ?_
    refine a_v rfl (s_assign ev_c) ?_
    refine a_nil ?_
    refine a_ret ?_
    exact ⟨[.tree 1 [], _], _, ⟨_, _, rfl, ev_nil (ev_t rfl), _, _, rfl, ev_t rfl, rfl⟩, View.le_refl _, rfl, rfl⟩
  · cases hc
#print axioms fr_feedD
end Go.Proofs
