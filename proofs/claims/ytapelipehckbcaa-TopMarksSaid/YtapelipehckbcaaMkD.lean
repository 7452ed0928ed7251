/- Cells with marks: a cell gets another value. -/
import Derived.Test.YtapelipehckbcaaMkD0
set_option linter.unusedVariables false
set_option linter.unusedSimpArgs false
namespace Go.AV
theorem View.set_mono {V V' : View} (h : V.le V') (b : Nat) (o : AObj) : (V.set b o).le (V'.set b o) := by
  intro k x hk
  by_cases e : k = b
  · subst e; simpa using hk
  · rw [View.set_other _ _ e] at hk ⊢; exact h _ _ hk
theorem View.set_self {V : View} {b : Nat} {o : AObj} (h : V b = some o) : V.set b o = V := by
  funext k; by_cases e : k = b
  · subst e; simp [h]
  · rw [View.set_other _ _ e]
theorem rowV_set' {c : Ce} {o n j : Nat} {v : Int} (h : j < n) : wrc (rowV c o n) (0 + ((j : Nat) : Int).toNat * 1) [iv v] = rowV (c.upd o j v) o n := by
  rw [show 0 + ((j : Nat) : Int).toNat * 1 = j by omega]; exact rowV_set h
end Go.AV
namespace Go.Proofs
open Go.AV
variable {V V₀ : View} {b bc cap : Nat} {n : Nat → Nat} {c base : Ce} {ss : List Ce} {X : Nat → AVal} {xm : AVal}
theorem mk_load_ok (O : Opened V b n c base ss V₀ bc cap X xm) {o j : Nat} (ho : o < 3) (hj : j < n o) : ACalls Try.prog 23 [pt b 0, iv ((o + 1 : Nat) : Int), iv (j : Int)] V (One (.tuple [iv (c o j), iv 0]) V) := by
  have h := mk_load O ((o + 1 : Nat) : Int) (j : Int) (by omega)
  rwa [loadR_ok (o := o) (j := j) (by omega) ho rfl hj] at h
theorem mk_store_bad (O : Opened V b n c base ss V₀ bc cap X xm) (k i v : Int) (hk : -4611686018427387904 ≤ k ∧ k < 4611686018427387904) (hbad : (loadR n c k i).2 ≠ 0) : ACalls Try.prog 19 [pt b 0, iv k, iv i, iv v] V (One (.tuple [iv 0, iv (loadR n c k i).2]) V) := by
  refine a_fn (fn := Try.f19) Try.func19 rfl ?_ rfl
  refine a_seq (a_region ?_)
  refine a_v rfl (s_assign ev_c) ?_
  refine a_v rfl (s_assign ev_c) ?_
  refine a_nil ?_
  refine a_seq (a_region ?_)
  refine a_v rfl (s_move (ev_t rfl)) ?_
  refine a_v rfl (s_move (ev_t rfl)) ?_
  refine a_v rfl (s_move (ev_t rfl)) ?_
  refine a_v rfl (s_call Try.okM23 ev_f (.cons (ev_t rfl) (.cons (ev_t rfl) (.cons (ev_t rfl) .nil))) (mk_load O _ _ hk)) ?_
  refine a_v rfl (s_move (ev_t rfl)) ?_
  refine a_v rfl (s_extract (ev_t rfl) rfl) ?_
  refine a_v rfl (s_extract (ev_t rfl) rfl) ?_
  refine a_v rfl (s_assign (ev_t rfl)) ?_
  refine a_v rfl (s_assign (ev_t rfl)) ?_
  refine a_nil ?_
  refine a_seq (a_seq (a_region ?_))
  refine a_v rfl (s_move (ev_t rfl)) ?_
  refine a_v rfl (s_cmp (ev_t rfl) ev_c rfl) ?_
  refine a_nil ?_
  refine a_cond (ev_t rfl) (fun hc => ?_) (fun hc => ?_)
  rotate_left
  · exfalso; simp at hc; exact hbad hc
  refine a_seq (a_region ?_)
  refine a_v rfl (s_move (ev_t rfl)) ?_
  refine a_v rfl (s_assign ev_c) ?_
  refine a_v rfl (s_assign (ev_t rfl)) ?_
  refine a_nil ?_
  refine a_ret ?_
  exact ⟨[_, _], _, ⟨_, _, rfl, ev_t rfl, _, _, rfl, ev_t rfl, rfl⟩, View.le_refl _, rfl, rfl⟩
theorem mk_store_ok (M : Mem V b n c c ss V₀) {o j : Nat} (v : Int) (ho : o < 3) (hj : j < n o) (hn : n o ≤ 6) (hss : ss.length ≤ 64) : ACalls Try.prog 19 [pt b 0, iv ((o + 1 : Nat) : Int), iv (j : Int), iv v] V (fun x V' => x = .tuple [iv (c o j), iv 0] ∧ Mem V' b n (c.upd o j v) (c.upd o j v) ss V₀) := by
  obtain ⟨bc, cap, X, xm, O⟩ := M.open
  obtain ⟨r, cp, hX, hr, hrb, hput⟩ := O.put o j ho hj
  have hj6 : j < 6 := by omega
  refine a_fn (fn := Try.f19) Try.func19 rfl ?_ rfl
  refine a_seq (a_region ?_)
  refine a_v rfl (s_assign ev_c) ?_
  refine a_v rfl (s_assign ev_c) ?_
  refine a_nil ?_
  refine a_seq (a_region ?_)
  refine a_v rfl (s_move (ev_t rfl)) ?_
  refine a_v rfl (s_move (ev_t rfl)) ?_
  refine a_v rfl (s_move (ev_t rfl)) ?_
  refine a_v rfl (s_call Try.okM23 ev_f (.cons (ev_t rfl) (.cons (ev_t rfl) (.cons (ev_t rfl) .nil))) (mk_load_ok O ho hj)) ?_
  refine a_v rfl (s_move (ev_t rfl)) ?_
  refine a_v rfl (s_extract (ev_t rfl) rfl) ?_
  refine a_v rfl (s_extract (ev_t rfl) rfl) ?_
  refine a_v rfl (s_assign (ev_t rfl)) ?_
  refine a_v rfl (s_assign (ev_t rfl)) ?_
  refine a_nil ?_
  refine a_seq (a_seq (a_region ?_))
  refine a_v rfl (s_move (ev_t rfl)) ?_
  refine a_v rfl (s_cmp (ev_t rfl) ev_c rfl) ?_
  refine a_nil ?_
  refine a_cond (ev_t rfl) (fun hc => ?_) (fun hc => a_skip ?_)
  · exfalso; simp at hc
  repeat first | refine thenA_x ?_ | refine blockA_hit ?_ | refine blockA_x (by decide) ?_
  refine a_seq (a_region ?_)
  refine a_v rfl (s_move (ev_t rfl)) ?_
  refine a_v rfl (s_nilCheck (ev_t rfl)) ?_
  refine a_v rfl (s_fieldAddr Try.f122_1 rfl (ev_t rfl)) ?_
  refine a_v rfl (s_load Try.sh119 (ev_t rfl) O.row rfl) ?_
  refine a_v rfl (s_move (ev_t rfl)) ?_
  refine a_v rfl (s_sub (ev_t rfl) ev_c (by omega) (by omega)) ?_
  refine a_v rfl (s_idxs Try.sl119 (ev_t rfl) (ev_t rfl) (by omega) (by omega)) ?_
  refine a_v rfl (s_load Try.sh84 (ev_t rfl) O.cells ((cells3 ho _ (by omega)).trans (congrArg some hX))) ?_
  refine a_v rfl (s_move (ev_t rfl)) ?_
  refine a_v rfl (s_move (ev_t rfl)) ?_
  refine a_v rfl (s_idxs Try.sl84 (ev_t rfl) (ev_t rfl) (by omega) (by omega)) ?_
  refine a_s (s_storew Try.sh2 (ev_t rfl) (ev_t rfl) hr rfl rfl (by simp [rowV_len]; omega) (rowV_set' hj)) ?_
  refine a_nil ?_
  have M1 := hput v
  obtain ⟨V1, hV1⟩ : ∃ W, W = V.set r (.rown (rowV (c.upd o j v) o (n o)) (some (cp * 1))) := ⟨_, rfl⟩
  rw [← hV1] at M1 ⊢
  clear hput hr hX O M hV1
  obtain ⟨bc, cap, X, xm, O⟩ := M1.open
  obtain ⟨cm, hM⟩ := O.marks
  refine a_seq (a_seq (a_region ?_))
  refine a_v rfl (s_move (ev_t rfl)) ?_
  refine a_v rfl (s_nilCheck (ev_t rfl)) ?_
  refine a_v rfl (s_fieldAddr Try.f122_2 rfl (ev_t rfl)) ?_
  refine a_v rfl (s_load Try.sh120 (ev_t rfl) O.row rfl) ?_
  refine a_v rfl (s_lenA Try.us120 (ev_t rfl) hM) ?_
  refine a_v rfl (s_assign (ev_t rfl)) ?_
  refine a_nil ?_
  refine a_seq (a_region ?_)
  refine a_v rfl (s_move (ev_t rfl)) ?_
  refine a_v rfl (s_cmp (ev_t rfl) ev_c rfl) ?_
  refine a_nil ?_
  refine a_cond (ev_t rfl) (fun hc => ?_) (fun hc => a_skip ?_)
  · obtain ⟨s, t, rfl⟩ : ∃ s t, ss = s :: t := by
      match ss, hc with
      | s :: t, _ => exact ⟨s, t, rfl⟩
      | [], hc => simp at hc
    obtain ⟨bm, cm2, ms, bt, hxm, hms, hbm, hbt, hbtb, hmp⟩ := O.top s t rfl
    subst hxm
    have htl : t.length ≤ 63 := by simp at hss; omega
    obtain ⟨mb, hmb⟩ : ∃ x, x = b := ⟨_, rfl⟩
    rw [← hmb] at O ⊢
    refine a_seq (a_any (β := Nat × Nat) (fun b jx => ([iv ((o + 1 : Nat) : Int), iv (j : Int), .agg [iv ((o + 1 : Nat) : Int), iv (j : Int)], pt mb 0, pt mb 0, pt mb 2, .v (.slice (some ⟨bm, 0, none⟩) (t.length + 1) cm2), iv (t.length + 1 : Nat), iv (t.length : Nat), pt bm (0 + ((t.length : Nat) : Int).toNat * 1), .agg [mpv bt], pt b.1 0, pt b.2 0, .v undef, .v undef] : List AVal).getD jx (.v undef)) (fun b L W => Two V1 (.row [iv 0, iv 0]) (.row [iv ((o + 1 : Nat) : Int), iv (j : Int)]) (.row [.v (.map none)]) (.row [mpv bt]) b (L 11) (L 12) (L 13) (L 14) W) ((0, 0)) Try.mixed (by kernel_rfl) two_none ?_ ?_)
    · refine ⟨fun b L W hK hj hw => p_f (f_plain rfl (s_move (ev_t rfl))) ⟨b, fun _ => rfl, fun _ _ => rfl, (by simpa [lset] using hK)⟩, ?_⟩
      refine ⟨fun b L W hK hj hw => p_f (f_plain rfl (s_move (ev_t rfl))) ⟨b, fun _ => rfl, fun _ _ => rfl, (by simpa [lset] using hK)⟩, ?_⟩
      refine ⟨fun b L W hK hj hw => p_f (f_plain rfl (s_build Try.z124 Try.pl124 (.cons (ev_t rfl) (.cons (ev_t rfl) .nil)) rfl)) ⟨b, fun _ => rfl, fun _ _ => rfl, (by simpa [lset] using hK)⟩, ?_⟩
      refine ⟨fun b L W hK hj hw => p_f (f_plain rfl (s_move (ev_t rfl))) ⟨b, fun _ => rfl, fun _ _ => rfl, (by simpa [lset] using hK)⟩, ?_⟩
      refine ⟨fun b L W hK hj hw => p_f (f_plain rfl (s_nilCheck (ev_t rfl))) ⟨b, fun _ => rfl, fun _ _ => rfl, (by simpa [lset] using hK)⟩, ?_⟩
      refine ⟨fun b L W hK hj hw => p_f (f_plain rfl (s_fieldAddr Try.f122_2 rfl (ev_t rfl))) ⟨b, fun _ => rfl, fun _ _ => rfl, (by simpa [lset] using hK)⟩, ?_⟩
      refine ⟨fun b L W hK hj hw => p_f (f_plain rfl (s_load Try.sh120 (ev_t rfl) (two_le hK _ _ O.row) rfl)) ⟨b, fun _ => rfl, fun _ _ => rfl, (by simpa [lset] using hK)⟩, ?_⟩
      refine ⟨fun b L W hK hj hw => p_f (f_plain rfl (s_move (ev_t rfl))) ⟨b, fun _ => rfl, fun _ _ => rfl, (by simpa [lset] using hK)⟩, ?_⟩
      refine ⟨fun b L W hK hj hw => p_f (f_plain rfl (OpS.cast (congrArg iv (by push_cast; omega)) (s_sub (ev_t rfl) ev_c (by push_cast; omega) (by push_cast; omega)))) ⟨b, fun _ => rfl, fun _ _ => rfl, (by simpa [lset] using hK)⟩, ?_⟩
      refine ⟨fun b L W hK hj hw => p_f (f_plain rfl (s_idxs Try.sl120 (ev_t rfl) (ev_t rfl) (by omega) (by omega))) ⟨b, fun _ => rfl, fun _ _ => rfl, (by simpa [lset] using hK)⟩, ?_⟩
      refine ⟨fun b L W hK hj hw => p_f (f_plain rfl (s_load Try.sh128 (ev_t rfl) (two_le hK _ _ hbm) (rowM_get (by omega)))) ⟨b, fun _ => rfl, fun _ _ => rfl, (by simpa [lset] using hK)⟩, ?_⟩
      refine ⟨fun b L W hK hj hw => p_s rfl (s_alloc Try.z124) fun x V' hx => ?_, ?_⟩
      · obtain ⟨r1, hr1, rfl, rfl⟩ := hx
        replace hj : L 11 = false := hj
        replace hK : Two V1 (.row [iv 0, iv 0]) (.row [iv ((o + 1 : Nat) : Int), iv (j : Int)]) (.row [.v (.map none)]) (.row [mpv bt]) b (L 11) (L 12) (L 13) (L 14) W := hK
        rw [hj] at hK
        refine ⟨(r1, b.2), fun _ => rfl, fun i hi => ?_, ?_⟩
        · have h1 : i ≠ 11 := by rintro rfl; rw [hj] at hi; cases hi
          exact (match i, h1 with
              | 0, _ => rfl
              | 1, _ => rfl
              | 2, _ => rfl
              | 3, _ => rfl
              | 4, _ => rfl
              | 5, _ => rfl
              | 6, _ => rfl
              | 7, _ => rfl
              | 8, _ => rfl
              | 9, _ => rfl
              | 10, _ => rfl
              | 11, g => absurd rfl g
              | 12, _ => rfl
              | 13, _ => rfl
              | 14, _ => rfl
              | n + 15, _ => rfl)
        · simpa [lset, Value.cells] using two_p hK hr1
      refine ⟨fun b L W hK hj hw => p_s rfl (s_alloc Try.z128) fun x V' hx => ?_, ?_⟩
      · obtain ⟨r1, hr1, rfl, rfl⟩ := hx
        replace hj : L 12 = false := hj
        replace hK : Two V1 (.row [iv 0, iv 0]) (.row [iv ((o + 1 : Nat) : Int), iv (j : Int)]) (.row [.v (.map none)]) (.row [mpv bt]) b (L 11) (L 12) (L 13) (L 14) W := hK
        rw [hj] at hK
        refine ⟨(b.1, r1), fun _ => rfl, fun i hi => ?_, ?_⟩
        · have h1 : i ≠ 12 := by rintro rfl; rw [hj] at hi; cases hi
          exact (match i, h1 with
              | 0, _ => rfl
              | 1, _ => rfl
              | 2, _ => rfl
              | 3, _ => rfl
              | 4, _ => rfl
              | 5, _ => rfl
              | 6, _ => rfl
              | 7, _ => rfl
              | 8, _ => rfl
              | 9, _ => rfl
              | 10, _ => rfl
              | 11, _ => rfl
              | 12, g => absurd rfl g
              | 13, _ => rfl
              | 14, _ => rfl
              | n + 15, _ => rfl)
        · simpa [lset, Value.cells] using two_q hK hr1
      refine ⟨fun b L W hK hj hw => p_s rfl (R := One (.v undef) (W.set b.1 (.row [iv ((o + 1 : Nat) : Int), iv (j : Int)]))) ?_ fun x V' hx => ?_, ?_⟩
      · have h1 : L 11 = true := hw 11 rfl
        replace hj : L 13 = false := hj
        replace hK : Two V1 (.row [iv 0, iv 0]) (.row [iv ((o + 1 : Nat) : Int), iv (j : Int)]) (.row [.v (.map none)]) (.row [mpv bt]) b (L 11) (L 12) (L 13) (L 14) W := hK
        rw [hj, h1] at hK
        exact s_storew Try.sh124 (ev_t rfl) (ev_t rfl) (two_r hK).1 rfl rfl (by decide) rfl
      · obtain ⟨rfl, rfl⟩ := hx
        have h1 : L 11 = true := hw 11 rfl
        replace hj : L 13 = false := hj
        replace hK : Two V1 (.row [iv 0, iv 0]) (.row [iv ((o + 1 : Nat) : Int), iv (j : Int)]) (.row [.v (.map none)]) (.row [mpv bt]) b (L 11) (L 12) (L 13) (L 14) W := hK
        rw [hj, h1] at hK
        exact ⟨b, fun h => absurd rfl h, fun _ _ => rfl, by simpa [lset, h1] using (two_r hK).2⟩
      refine ⟨fun b L W hK hj hw => p_s rfl (R := One (.v undef) (W.set b.2 (.row [mpv bt]))) ?_ fun x V' hx => ?_, ?_⟩
      · have h1 : L 12 = true := hw 12 rfl
        replace hj : L 14 = false := hj
        replace hK : Two V1 (.row [iv 0, iv 0]) (.row [iv ((o + 1 : Nat) : Int), iv (j : Int)]) (.row [.v (.map none)]) (.row [mpv bt]) b (L 11) (L 12) (L 13) (L 14) W := hK
        rw [hj, h1] at hK
        exact s_storew Try.sh128 (ev_t rfl) (ev_t rfl) (two_t hK).1 rfl rfl (by decide) rfl
      · obtain ⟨rfl, rfl⟩ := hx
        have h1 : L 12 = true := hw 12 rfl
        replace hj : L 14 = false := hj
        replace hK : Two V1 (.row [iv 0, iv 0]) (.row [iv ((o + 1 : Nat) : Int), iv (j : Int)]) (.row [.v (.map none)]) (.row [mpv bt]) b (L 11) (L 12) (L 13) (L 14) W := hK
        rw [hj, h1] at hK
        exact ⟨b, fun h => absurd rfl h, fun _ _ => rfl, by simpa [lset, h1] using (two_t hK).2⟩
      trivial
    intro q L W hL hK
    subst hmb
    rw [hL 11 (by decide), hL 12 (by decide), hL 13 (by decide), hL 14 (by decide)] at hK
    have hWle := two_le hK
    have hq1 : W q.1 = some (.row [iv ((o + 1 : Nat) : Int), iv (j : Int)]) := by rw [hK.eq]; simp [View.set_other _ _ (hK.ne rfl rfl)]
    have hq2 : W q.2 = some (.row [mpv bt]) := by rw [hK.eq]; simp
    have hWt := hWle _ _ hbt
    clear hK
    obtain ⟨g, x, hg, hget⟩ : ∃ (g : Bool) (x : Int), ((g = true ∧ s o j ≠ c o j ∧ x = s o j) ∨ (g = false ∧ s o j = c o j)) ∧ ((g = true ∧ (K2 o j, iv x) ∈ dif s c) ∨ (g = false ∧ (∀ p ∈ dif s c, p.1 ≠ K2 o j) ∧ iv x = .v (.int .i64 0))) := by
      by_cases h : s o j = c o j
      · exact ⟨false, 0, .inr ⟨rfl, h⟩, .inr ⟨rfl, dif_no h, rfl⟩⟩
      · exact ⟨true, s o j, .inl ⟨rfl, h, rfl⟩, .inl ⟨rfl, dif_in ho hj6 h⟩⟩
    refine a_seq (a_region ?_)
    refine a_v rfl (s_fieldAddr Try.f128_0 rfl (ev_t rfl)) ?_
    refine a_v rfl (s_load Try.sh126 (ev_t rfl) hq2 rfl) ?_
    refine a_v rfl (s_load Try.sh124 (ev_t rfl) hq1 rfl) ?_
    refine a_v rfl (s_mapget2 (k := K2 o j) (x := iv x) (r := g) Try.um126 Try.kl Try.z2 hWt (okKdif _ _) (ev_t rfl) (ev_agg (us := kv o j) (ev_t rfl)) (okK2 ho hj6) hget) ?_
    refine a_v rfl (s_move (ev_t rfl)) ?_
    refine a_v rfl (s_extract (ev_t rfl) rfl) ?_
    refine a_v rfl (s_extract (ev_t rfl) rfl) ?_
    refine a_v rfl (s_assign (ev_t rfl)) ?_
    refine a_v rfl (s_assign (ev_t rfl)) ?_
    refine a_nil ?_
    refine a_block ?_
    refine a_seq (a_region ?_)
    refine a_v rfl (s_move (ev_t rfl)) ?_
    refine a_v rfl (s_not (ev_t rfl)) ?_
    refine a_v rfl (s_move (ev_t rfl)) ?_
    refine a_f rfl (f_guard rfl (gd_b rfl (ev_t rfl)) fun h2 => s_move (ev_t rfl)) ?_
    refine a_f rfl (f_guard rfl (gd_b rfl (ev_t rfl)) fun h2 => s_move (ev_t rfl)) ?_
    refine a_f rfl (f_guard rfl (gd_b rfl (ev_t rfl)) fun h2 => s_cmp (ev_cond (ev_t rfl) h2) (ev_cond (ev_t rfl) h2) rfl) ?_
    refine a_v rfl (s_pickand (ev_t rfl) (ev_t rfl)) ?_
    refine a_v rfl (s_assign (ev_t rfl)) ?_
    refine a_nil ?_
    refine a_cond (ev_t rfl) (fun hc => ?_) (fun hc => ?_)
    · have hA : s o j = c o j ∧ s o j ≠ v := by
        rcases hg with ⟨rfl, _⟩ | ⟨rfl, h⟩
        · simp at hc
        · simp at hc; exact ⟨h, by omega⟩
      refine a_region ?_
      refine a_v rfl (s_fieldAddr Try.f128_0 rfl (ev_t rfl)) ?_
      refine a_v rfl (s_load Try.sh126 (ev_t rfl) hq2 rfl) ?_
      refine a_v rfl (s_load Try.sh124 (ev_t rfl) hq1 rfl) ?_
      refine a_v rfl (s_move (ev_t rfl)) ?_
      refine a_s (s_mapput (k := K2 o j) (x := iv (c o j)) (l' := dif s (c.upd o j v)) Try.um126 Try.kl hWt (okKdif _ _) (ev_t rfl) (ev_agg (us := kv o j) (ev_t rfl)) (ev_t rfl) (okK2 ho hj6) (.inl ⟨dif_no hA.1, hA.1 ▸ dif_ins ho hj6 hA.1 hA.2⟩)) ?_
      refine a_nil ?_
      repeat first | refine thenA_x ?_ | refine blockA_hit ?_ | refine blockA_x (by decide) ?_
      refine a_seq (a_region ?_)
      refine a_v rfl (s_move (ev_t rfl)) ?_
      refine a_v rfl (s_assign (ev_t rfl)) ?_
      refine a_v rfl (s_assign ev_c) ?_
      refine a_nil ?_
      refine a_ret ?_
      exact ⟨[_, _], _, ⟨_, _, rfl, ev_t rfl, _, _, rfl, ev_t rfl, rfl⟩, View.le_refl _, rfl, (hmp _).more (View.set_mono hWle _ _)⟩
    refine a_seq (a_region ?_)
    refine a_v rfl (s_move (ev_t rfl)) ?_
    refine a_v rfl (s_move (ev_t rfl)) ?_
    refine a_f rfl (f_guard rfl (gd_b rfl (ev_t rfl)) fun h1 => s_move (ev_t rfl)) ?_
    refine a_f rfl (f_guard rfl (gd_b rfl (ev_t rfl)) fun h1 => s_move (ev_t rfl)) ?_
    refine a_f rfl (f_guard rfl (gd_b rfl (ev_t rfl)) fun h1 => s_cmp (ev_cond (ev_t rfl) h1) (ev_cond (ev_t rfl) h1) rfl) ?_
    refine a_v rfl (s_pickand (ev_t rfl) (ev_t rfl)) ?_
    refine a_v rfl (s_assign (ev_t rfl)) ?_
    refine a_nil ?_
    refine a_cond (ev_t rfl) (fun hc2 => ?_) (fun hc2 => a_skip ?_)
    · have hB : s o j ≠ c o j ∧ v = s o j := by
        rcases hg with ⟨rfl, h1, h2⟩ | ⟨rfl, h⟩
        · simp at hc2; exact ⟨h1, by omega⟩
        · simp at hc2
      obtain ⟨p1, x1, r1, d1, d2⟩ := dif_del ho hj6 hB.1
      rw [← hB.2] at d2
      refine a_region ?_
      refine a_v rfl (s_fieldAddr Try.f128_0 rfl (ev_t rfl)) ?_
      refine a_v rfl (s_load Try.sh126 (ev_t rfl) hq2 rfl) ?_
      refine a_v rfl (s_load Try.sh124 (ev_t rfl) hq1 rfl) ?_
      refine a_s (s_mapdel (k := K2 o j) (l' := dif s (c.upd o j v)) Try.um126 Try.kl hWt (okKdif _ _) (ev_t rfl) (ev_agg (us := kv o j) (ev_t rfl)) (okK2 ho hj6) (.inr ⟨p1, x1, r1, d1, d2⟩)) ?_
      refine a_nil ?_
      repeat first | refine thenA_x ?_ | refine blockA_hit ?_ | refine blockA_x (by decide) ?_
      refine a_seq (a_region ?_)
      refine a_v rfl (s_move (ev_t rfl)) ?_
      refine a_v rfl (s_assign (ev_t rfl)) ?_
      refine a_v rfl (s_assign ev_c) ?_
      refine a_nil ?_
      refine a_ret ?_
      exact ⟨[_, _], _, ⟨_, _, rfl, ev_t rfl, _, _, rfl, ev_t rfl, rfl⟩, View.le_refl _, rfl, (hmp _).more (View.set_mono hWle _ _)⟩
    have hC : dif s (c.upd o j v) = dif s c := by
      rcases hg with ⟨rfl, h1, h2⟩ | ⟨rfl, h⟩
      · simp at hc2; exact dif_keep ho hj6 h1 (by omega)
      · simp at hc; exact dif_stay ho hj6 (by omega)
    have hF := hmp (c.upd o j v)
    rw [hC, View.set_self hbt] at hF
    repeat first | refine thenA_x ?_ | refine blockA_hit ?_ | refine blockA_x (by decide) ?_
    refine a_seq (a_region ?_)
    refine a_v rfl (s_move (ev_t rfl)) ?_
    refine a_v rfl (s_assign (ev_t rfl)) ?_
    refine a_v rfl (s_assign ev_c) ?_
    refine a_nil ?_
    refine a_ret ?_
    exact ⟨[_, _], _, ⟨_, _, rfl, ev_t rfl, _, _, rfl, ev_t rfl, rfl⟩, View.le_refl _, rfl, hF.more hWle⟩
  have hnil : ss = [] := by
    match ss, hc with
    | s :: t, hc => simp at hc
    | [], _ => rfl
  subst hnil
  repeat first | refine thenA_x ?_ | refine blockA_hit ?_ | refine blockA_x (by decide) ?_
  refine a_seq (a_region ?_)
  refine a_v rfl (s_move (ev_t rfl)) ?_
  refine a_v rfl (s_assign (ev_t rfl)) ?_
  refine a_v rfl (s_assign ev_c) ?_
  refine a_nil ?_
  refine a_ret ?_
  exact ⟨[_, _], _, ⟨_, _, rfl, ev_t rfl, _, _, rfl, ev_t rfl, rfl⟩, View.le_refl _, rfl, M1.rebase⟩
#print axioms mk_store_bad
#print axioms mk_store_ok
end Go.Proofs
