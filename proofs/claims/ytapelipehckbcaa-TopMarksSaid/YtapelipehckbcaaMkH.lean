/- Cells with marks: the top mark is taken away, the cells stay. -/
import Derived.Test.YtapelipehckbcaaMkG
set_option linter.unusedVariables false
set_option linter.unusedSimpArgs false
namespace Go.AV
/-- Where the top mark's map lies. -/
def TopAt (V : View) (b bt : Nat) : Prop := ∃ (xc : AVal) (bm k cm : Nat) (ms : List Nat) (N : Option Nat), V b = some (.row [bv true, xc, .v (.slice (some ⟨bm, 0, none⟩) k cm)]) ∧ V bm = some (.rown ((ms.reverse ++ [bt]).map mpv) N)
theorem TopAt.uniq {V : View} {b bt bt' : Nat} (h : TopAt V b bt) (h' : TopAt V b bt') : bt' = bt := by
  obtain ⟨xc, bm, k, cm, ms, N, h1, h2⟩ := h
  obtain ⟨xc', bm', k', cm', ms', N', h1', h2'⟩ := h'
  rw [h1] at h1'
  simp at h1'
  obtain ⟨_, rfl, _⟩ := h1'
  rw [h2] at h2'
  simp only [Option.some.injEq, AObj.rown.injEq, List.map_append, List.map_cons, List.map_nil] at h2'
  have := (List.append_inj' h2'.1 rfl).2
  simpa using this.symm
theorem TopAt.set {V : View} {b bt x : Nat} {o : AObj} (h : TopAt V b bt) (hx : ∀ cs N, V x ≠ some (.rown cs N)) : TopAt (V.set x o) b bt := by
  obtain ⟨xc, bm, k, cm, ms, N, h1, h2⟩ := h
  exact ⟨xc, bm, k, cm, ms, N, by rw [View.set_other _ _ (by rintro rfl; exact hx _ _ h1)]; exact h1, by rw [View.set_other _ _ (by rintro rfl; exact hx _ _ h2)]; exact h2⟩
end Go.AV
namespace Go.Proofs
open Go.AV
variable {V V₀ : View} {b : Nat} {n : Nat → Nat} {c base : Ce} {ss : List Ce}
theorem mk_keep_none (M : Mem V b n c base [] V₀) : ACalls Try.prog 22 [pt b 0] V (fun x V' => x = .tuple [iv 0, iv 213] ∧ V' = V) := by
  refine a_fn (fn := Try.f22) Try.func22 rfl ?_ rfl
  refine a_seq (a_region ?_)
  refine a_v rfl (s_assign ev_c) ?_
  refine a_v rfl (s_assign ev_c) ?_
  refine a_nil ?_
  refine a_seq (a_region ?_)
  refine a_v rfl (s_move (ev_t rfl)) ?_
  refine a_vp rfl (s_call Try.okM49 ev_f (.cons (ev_t rfl) .nil) (mk_pop_none M)) fun xv Vv hx => ?_
  obtain ⟨rfl, hVV⟩ := hx; have hVV := hVV.symm; subst hVV
  refine a_v rfl (s_move (ev_t rfl)) ?_
  refine a_v rfl (s_extract (ev_t rfl) rfl) ?_
  refine a_v rfl (s_extract (ev_t rfl) rfl) ?_
  refine a_vp rfl (s_alloc Try.z128) fun xv Vv hx => ?_
  obtain ⟨tb, ntb, rfl, rfl⟩ := hx
  have vtb : V tb = none := by simpa [View.set, ] using ntb
  refine a_s (s_store Try.sh128 (ev_t rfl) (ev_t rfl) (by simp [View.set, View.drop, vtb] <;> first | exact ⟨rfl, rfl⟩ | exact rfl) rfl rfl (by first | decide | (simp; done) | (simp; omega))) ?_
  refine a_v rfl (s_assign (ev_t rfl)) ?_
  refine a_nil ?_
  refine a_seq (a_seq (a_region ?_))
  refine a_v rfl (s_move (ev_t rfl)) ?_
  refine a_v rfl (s_cmp (ev_t rfl) ev_c rfl) ?_
  refine a_nil ?_
  refine a_cond (ev_t rfl) (fun hc => ?_) (fun hc => ?_)
  rotate_left
  · exfalso; simp at hc
  refine a_seq (a_region ?_)
  refine a_v rfl (s_move (ev_t rfl)) ?_
  refine a_v rfl (s_assign ev_c) ?_
  refine a_v rfl (s_assign (ev_t rfl)) ?_
  refine a_nil ?_
  refine a_ret ?_
  refine ⟨[_, _], V, ⟨_, _, rfl, ev_t rfl, _, _, rfl, ev_t rfl, rfl⟩, ?_, rfl, rfl⟩
  rw [View.set_set]
  exact View.le_self_set ntb
theorem mk_keep {nn : Nat → Nat} {s : Ce} {t : List Ce} (M : Mem V b nn c c (s :: t) V₀) (hss : t.length < 64) (hn6 : ∀ o, o < 3 → nn o ≤ 6) (hc0 : Zr nn c) (hs0 : Zr nn s) : ACalls Try.prog 22 [pt b 0] V (fun x V' => x = .tuple [iv (dif s c).length, iv 0] ∧ Mem V' b nn c c t V₀) := by
  refine a_fn (fn := Try.f22) Try.func22 rfl ?_ rfl
  refine a_seq (a_region ?_)
  refine a_v rfl (s_assign ev_c) ?_
  refine a_v rfl (s_assign ev_c) ?_
  refine a_nil ?_
  refine a_seq (a_region ?_)
  refine a_v rfl (s_move (ev_t rfl)) ?_
  refine a_vp rfl (s_call Try.okM49 ev_f (.cons (ev_t rfl) .nil) (mk_pop M hss)) fun xv Vv hx => ?_
  obtain ⟨bt, nbt, rfl, M1⟩ := hx; obtain ⟨W, rfl⟩ : ∃ W, W = Vv := ⟨_, rfl⟩
  refine a_v rfl (s_move (ev_t rfl)) ?_
  refine a_v rfl (s_extract (ev_t rfl) rfl) ?_
  refine a_v rfl (s_extract (ev_t rfl) rfl) ?_
  refine a_vp rfl (s_alloc Try.z128) fun xv Vv hx => ?_
  obtain ⟨tb, ntb, rfl, rfl⟩ := hx
  have vtb : W tb = none := by simpa [View.set, ] using ntb
  refine a_s (s_store Try.sh128 (ev_t rfl) (ev_t rfl) (by simp [View.set, View.drop, vtb] <;> first | exact ⟨rfl, rfl⟩ | exact rfl) rfl rfl (by first | decide | (simp; done) | (simp; omega))) ?_
  refine a_v rfl (s_assign (ev_t rfl)) ?_
  refine a_nil ?_
  refine a_gen fun W1 hW1 => ?_
  have M2 : Mem W1 b nn c s t ((V₀.set bt (.mp (dif s c))).set tb (.row [mpv bt])) := by
    have h := M1.new (.row [mpv bt]) ntb
    rw [hW1, View.set_set]; exact h
  have hne : bt ≠ tb := by rintro rfl; have := M1.le _ _ (View.set_same _ _ _); rw [ntb] at this; cases this
  have n0tb : V₀ tb = none := by have := View.le_none M1.le ntb; rwa [View.set_other _ _ hne.symm] at this
  clear hW1 ntb M1
  have htb : W1 tb = some (.row [mpv bt]) := M2.le _ _ (View.set_same _ _ _)
  rw [View.set_comm _ _ _ hne] at M2
  have hbt : W1 bt = some (.mp (dif s c)) := M2.le _ _ (View.set_same _ _ _)
  have nbt' : (V₀.set tb (.row [mpv bt])) bt = none := by rw [View.set_other _ _ hne]; exact nbt
  refine a_seq (a_seq (a_region ?_))
  refine a_v rfl (s_move (ev_t rfl)) ?_
  refine a_v rfl (s_cmp (ev_t rfl) ev_c rfl) ?_
  refine a_nil ?_
  refine a_cond (ev_t rfl) (fun hc => ?_) (fun hc => a_skip ?_)
  · exfalso; simp at hc
  obtain ⟨bc0, cap0, X0, xm0, O0⟩ := M2.open
  obtain ⟨cm0, hM0⟩ := O0.marks
  refine a_seq (a_seq (a_region ?_))
  refine a_v rfl (s_move (ev_t rfl)) ?_
  refine a_v rfl (s_nilCheck (ev_t rfl)) ?_
  refine a_v rfl (s_fieldAddr Try.f122_2 rfl (ev_t rfl)) ?_
  refine a_v rfl (s_load Try.sh120 (ev_t rfl) O0.row rfl) ?_
  refine a_v rfl (s_lenA Try.us120 (ev_t rfl) hM0) ?_
  refine a_v rfl (s_assign (ev_t rfl)) ?_
  refine a_nil ?_
  refine a_seq (a_region ?_)
  refine a_v rfl (s_move (ev_t rfl)) ?_
  refine a_v rfl (s_cmp (ev_t rfl) ev_c rfl) ?_
  refine a_nil ?_
  refine a_cond (ev_t rfl) (fun hc => ?_) (fun hc => a_skip ?_)
  rotate_left
  · have hnil : t = [] := by
      match t, hc with
      | s :: t, hc => simp at hc
      | [], _ => rfl
    subst hnil
    repeat first | refine thenA_x ?_ | refine blockA_hit ?_ | refine blockA_x (by decide) ?_
    refine a_seq (a_region ?_)
    refine a_v rfl (s_fieldAddr Try.f128_0 rfl (ev_t rfl)) ?_
    refine a_v rfl (s_load Try.sh126 (ev_t rfl) htb rfl) ?_
    refine a_v rfl (s_maplen Try.um126 hbt (ev_t rfl)) ?_
    refine a_v rfl (s_assign (ev_t rfl)) ?_
    refine a_v rfl (s_assign ev_c) ?_
    refine a_nil ?_
    refine a_ret ?_
    exact ⟨[_, _], _, ⟨_, _, rfl, ev_t rfl, _, _, rfl, ev_t rfl, rfl⟩, View.le_refl _, rfl, ((M2.less (View.le_self_set nbt')).less (View.le_self_set n0tb)).rebase⟩
  obtain ⟨s1, t1, rfl⟩ : ∃ s1 t1, t = s1 :: t1 := by
    match t, hc with
    | s1 :: t1, _ => exact ⟨s1, t1, rfl⟩
    | [], hc => simp at hc
  obtain ⟨bm, cm, ms, bt1, hxm, hms, hbm, hbt1, hbt1b, _⟩ := O0.top s1 t1 rfl
  subst hxm
  have hT0 : TopAt W1 b bt1 := ⟨_, bm, _, cm, ms, _, O0.row, hbm⟩
  have htl : t1.length < 64 := by simp at hss; omega
  refine a_seq (a_region ?_)
  refine a_v rfl (s_move (ev_t rfl)) ?_
  refine a_v rfl (s_nilCheck (ev_t rfl)) ?_
  refine a_v rfl (s_fieldAddr Try.f122_2 rfl (ev_t rfl)) ?_
  refine a_v rfl (s_load Try.sh120 (ev_t rfl) O0.row rfl) ?_
  refine a_v rfl (s_move (ev_t rfl)) ?_
  refine a_v rfl (OpS.cast (congrArg iv (by simp : _ = ((t1.length : Nat) : Int))) (s_sub (ev_t rfl) ev_c (by first | omega | (simp; done) | (simp; omega)) (by first | omega | (simp; done) | (simp; omega)))) ?_
  refine a_v rfl (s_idxs Try.sl120 (ev_t rfl) (ev_t rfl) (by omega) (by omega)) ?_
  refine a_v rfl (s_load Try.sh128 (ev_t rfl) hbm (rowM_get (by omega))) ?_
  refine a_vp rfl (s_alloc Try.z128) fun xv Vv hx => ?_
  obtain ⟨tc, ntc, rfl, rfl⟩ := hx
  have vtc : W1 tc = none := by simpa [View.set, ] using ntc
  refine a_s (s_store Try.sh128 (ev_t rfl) (ev_t rfl) (by simp [View.set, View.drop, vtc] <;> first | exact ⟨rfl, rfl⟩ | exact rfl) rfl rfl (by first | decide | (simp; done) | (simp; omega))) ?_
  refine a_nil ?_
  have hnetc : bt ≠ tc := View.ne_of hbt ntc
  have hnetc1 : tb ≠ tc := View.ne_of htb ntc
  have M3 : Mem (W1.set tc (.row [mpv bt1])) b nn c s (s1 :: t1) (((V₀.set tb (.row [mpv bt])).set tc (.row [mpv bt1])).set bt (.mp (dif s c))) := by
    rw [← View.set_comm _ _ _ hnetc]; exact M2.new _ ntc
  have n0tc : (V₀.set tb (.row [mpv bt])) tc = none := by
    have h := View.le_none M2.le ntc
    rwa [View.set_other _ _ hnetc.symm] at h
  have nbt2 : ((V₀.set tb (.row [mpv bt])).set tc (.row [mpv bt1])) bt = none := by rw [View.set_other _ _ hnetc]; exact nbt'
  obtain ⟨R0, hR0⟩ : ∃ R, R = (V₀.set tb (.row [mpv bt])).set tc (.row [mpv bt1]) := ⟨_, rfl⟩
  rw [← hR0] at M3 nbt2
  have hR0le : V₀.le R0 := by rw [hR0]; exact View.le_trans (View.le_self_set n0tb) (View.le_self_set n0tc)
  have hR0tb : R0 tb = some (.row [mpv bt]) := by rw [hR0, View.set_other _ _ hnetc1]; exact View.set_same _ _ _
  have hR0tc : R0 tc = some (.row [mpv bt1]) := by rw [hR0]; exact View.set_same _ _ _
  refine a_gen fun W2 hW2 => ?_
  have hW2' : W2 = W1.set tc (.row [mpv bt1]) := by rw [hW2]; exact View.set_set _ _ _ _
  have hT2 : TopAt W2 b bt1 := by rw [hW2']; exact hT0.set (fun cs N h => by rw [ntc] at h; cases h)
  rw [← hW2'] at M3
  have hbt2 : W2 bt = some (.mp (dif s c)) := M3.le _ _ (View.set_same _ _ _)
  clear hW2 hW2' M2 O0 hM0 hbm hT0 hbt1
  refine a_openmap hbt2 (dif_vals _ _) fun es clock hE => ?_
  have M4 : Mem (W2.set bt (.raw (.map es clock))) b nn c s (s1 :: t1) (R0.set bt (.raw (.map es clock))) := M3.rest
  have hT4 : TopAt (W2.set bt (.raw (.map es clock))) b bt1 := hT2.set (fun cs N h => by rw [hbt2] at h; cases h)
  have hneR : ∀ k o, R0 k = some o → k ≠ bt := fun k o h e => by rw [e, nbt2] at h; cases h
  refine a_gen fun W3 hW3 => ?_
  rw [← hW3] at M4 hT4
  have hraw : W3 bt = some (.raw (.map es clock)) := M4.le _ _ (View.set_same _ _ _)
  have htb3 : W3 tb = some (.row [mpv bt]) := M4.le _ _ (by rw [View.set_other _ _ (hneR _ _ hR0tb)]; exact hR0tb)
  refine a_seq (a_region ?_)
  refine a_v rfl (s_fieldAddr Try.f128_0 rfl (ev_t rfl)) ?_
  refine a_v rfl (s_load Try.sh126 (ev_t rfl) htb3 rfl) ?_
  refine a_vp rfl (s_range Try.um126 hraw (ev_t rfl)) fun xv Vv hx => ?_
  obtain ⟨it, nit, rfl, rfl⟩ := hx
  refine a_nil ?_
  have M5 := M4.new (.raw (.mapIter (some bt) clock #[] clock)) nit
  have hT5 := hT4.set (o := .raw (.mapIter (some bt) clock #[] clock)) (x := it) (fun cs N h => by rw [nit] at h; cases h)
  have n0it : (R0.set bt (.raw (.map es clock))) it = none := View.le_none M4.le nit
  have hneit : it ≠ bt := (View.ne_of hraw nit).symm
  refine a_block ?_
  refine a_loop (fun n st V' => ∃ (lt : List (Nat × AVal)) (seen : Array Nat) (g : Ce), (leftOf es seen).size = n ∧ st = ⟨lt, 79⟩ ∧ SubT [(0, pt b 0), (4, pt tb 0), (7, pt tc 0), (37, pt it 0)] lt ∧ Prog es seen s c g ∧ TopAt V' b bt1 ∧ Mem V' b nn c g (s1 :: t1) ((R0.set bt (.raw (.map es clock))).set it (.raw (.mapIter (some bt) clock seen clock)))) ?_ (leftOf es #[]).size _ _ ⟨_, #[], s, rfl, rfl, ⟨rfl, rfl, rfl, rfl, trivial⟩, Prog.start, hT5, M5⟩
  rintro m st W4 ⟨lt, seen, g, rfl, rfl, hs, hP, hT, M6⟩
  refine a_forget hs ?_
  have hR1 : ∀ k o, R0 k = some o → ∀ x, ((R0.set bt (.raw (.map es clock))).set it x) k = some o := fun k o h x => by
    have h1 := hneR k o h
    have h2 : k ≠ it := by
      rintro rfl
      rw [View.set_other _ _ h1, h] at n0it; cases n0it
    rw [View.set_other _ _ h2, View.set_other _ _ h1]; exact h
  have hR2 : ∀ x, ((R0.set bt (.raw (.map es clock))).set it x) bt = some (.raw (.map es clock)) := fun x => by rw [View.set_other _ _ hneit.symm]; exact View.set_same _ _ _
  have hraw4 : W4 bt = some (.raw (.map es clock)) := M6.le _ _ (hR2 _)
  have hit4 : W4 it = some (.raw (.mapIter (some bt) clock seen clock)) := M6.le _ _ (View.set_same _ _ _)
  have htb4 : W4 tb = some (.row [mpv bt]) := M6.le _ _ (hR1 _ _ hR0tb _)
  refine a_seq (a_region ?_)
  refine a_vp rfl (s_next hraw4 hit4 hE.lt (ev_t rfl)) fun xv Vv hx => ?_
  obtain ⟨gb, vs, rfl, hx2⟩ := next_cases hx; clear hx
  refine a_v rfl (s_extract (ev_t rfl) rfl) ?_
  refine a_nil ?_
  refine a_seq (a_cond (ev_t rfl) (fun hc => a_skip ?_) (fun hc => a_exit ?_))
  · obtain ⟨e, he, rfl⟩ : ∃ e ∈ (leftOf es seen).toList, Vv = W4.set it (.raw (.mapIter (some bt) clock (seen.push e.born) clock)) := by
      rcases hx2 with ⟨h, _⟩ | ⟨_, h⟩
      · rw [h] at hc; cases hc
      · exact h
    obtain ⟨hem, _⟩ := mem_left he
    obtain ⟨o, i, ho, hi, hsc, hek, hev⟩ := hE.ent hem
    have hin : i < nn o := by
      refine Classical.byContradiction fun h => ?_
      exact hsc (by rw [hs0 o i ho (by omega), hc0 o i ho (by omega)])
    have hgo := hP.now he hek
    have M7 : Mem (W4.set it (.raw (.mapIter (some bt) clock (seen.push e.born) clock))) b nn c g (s1 :: t1) ((R0.set bt (.raw (.map es clock))).set it (.raw (.mapIter (some bt) clock (seen.push e.born) clock))) := M6.rest
    have hT7 := hT.set (o := .raw (.mapIter (some bt) clock (seen.push e.born) clock)) (x := it) (fun cs N h => by rw [hit4] at h; cases h)
    refine a_gen fun W5 hW5 => ?_
    rw [← hW5] at M7 hT7
    have hraw5 : W5 bt = some (.raw (.map es clock)) := M7.le _ _ (hR2 _)
    have hit5 : W5 it = some (.raw (.mapIter (some bt) clock (seen.push e.born) clock)) := M7.le _ _ (View.set_same _ _ _)
    refine a_block ?_
    refine a_seq (a_region ?_)
    refine a_v rfl (s_entry (us := kv o i) hraw5 hit5 hE.bn hem hek hev (ev_t rfl)) ?_
    refine a_v rfl (s_extract (ev_t rfl) rfl) ?_
    refine a_v rfl (s_extract (ev_t rfl) rfl) ?_
    refine a_vp rfl (s_alloc Try.z124) fun xv Vv hx => ?_
    obtain ⟨kb, nkb, rfl, rfl⟩ := hx
    have vkb : W5 kb = none := by simpa [View.set, ] using nkb
    refine a_s (s_store Try.sh124 (ev_t rfl) (ev_t rfl) (by simp [View.set, View.drop, vkb] <;> first | exact ⟨rfl, rfl⟩ | exact rfl) rfl rfl (by first | decide | (simp; done) | (simp; omega))) ?_
    refine a_v rfl (s_assign (ev_t rfl)) ?_
    refine a_nil ?_
    have M8 := M7.more (View.le_self_set (o := .row [iv ((o + 1 : Nat) : Int), iv (i : Int)]) nkb)
    have hT8 := hT7.set (o := .row [iv ((o + 1 : Nat) : Int), iv (i : Int)]) (x := kb) (fun cs N h => by rw [nkb] at h; cases h)
    refine a_gen fun W6 hW6 => ?_
    have hW6' : W6 = W5.set kb (.row [iv ((o + 1 : Nat) : Int), iv (i : Int)]) := by rw [hW6]; exact View.set_set _ _ _ _
    rw [← hW6'] at M8 hT8
    have hkb : W6 kb = some (.row [iv ((o + 1 : Nat) : Int), iv (i : Int)]) := by rw [hW6']; exact View.set_same _ _ _
    obtain ⟨bc, cap, X, xm, O⟩ := M8.open
    obtain ⟨bm', cm', ms', bt1', hxm, hms', hbm, hbt1, hbt1b, hmp⟩ := O.top s1 t1 rfl
    subst hxm
    have hu := hT8.uniq ⟨_, bm', _, cm', ms', _, O.row, hbm⟩
    subst hu
    obtain ⟨r, cp, hX, hr, hrb, _⟩ := O.put o i ho hin
    have htc : W6 tc = some (.row [mpv bt1']) := M8.le _ _ (hR1 _ _ hR0tc _)
    obtain ⟨q, x, hq, hget⟩ : ∃ (q : Bool) (x : Int), ((q = true ∧ s1 o i ≠ g o i ∧ x = s1 o i) ∨ (q = false ∧ s1 o i = g o i)) ∧ ((q = true ∧ (K2 o i, iv x) ∈ dif s1 g) ∨ (q = false ∧ (∀ p ∈ dif s1 g, p.1 ≠ K2 o i) ∧ iv x = .v (.int .i64 0))) := by
      by_cases h : s1 o i = g o i
      · exact ⟨false, 0, .inr ⟨rfl, h⟩, .inr ⟨rfl, dif_no h, rfl⟩⟩
      · exact ⟨true, s1 o i, .inl ⟨rfl, h, rfl⟩, .inl ⟨rfl, dif_in ho hi h⟩⟩
    refine a_seq (a_region ?_)
    refine a_v rfl (s_fieldAddr Try.f128_0 rfl (ev_t rfl)) ?_
    refine a_v rfl (s_load Try.sh126 (ev_t rfl) htc rfl) ?_
    refine a_v rfl (s_load Try.sh124 (ev_t rfl) hkb rfl) ?_
    refine a_v rfl (s_mapget2 (k := K2 o i) (x := iv x) (r := q) Try.um126 Try.kl Try.z2 hbt1 (okKdif _ _) (ev_t rfl) (ev_agg (us := kv o i) (ev_t rfl)) (okK2 ho hi) hget) ?_
    refine a_v rfl (s_move (ev_t rfl)) ?_
    refine a_v rfl (s_extract (ev_t rfl) rfl) ?_
    refine a_v rfl (s_extract (ev_t rfl) rfl) ?_
    refine a_v rfl (s_assign (ev_t rfl)) ?_
    refine a_v rfl (s_assign (ev_t rfl)) ?_
    refine a_nil ?_
    refine a_block ?_
    refine a_seq (a_region ?_)
    refine a_v rfl (s_move (ev_t rfl)) ?_
    refine a_v rfl (s_not (ev_t rfl)) ?_
    refine a_v rfl (s_assign (ev_t rfl)) ?_
    refine a_nil ?_
    refine a_cond (ev_t rfl) (fun hc2 => ?_) (fun hc2 => ?_)
    · have hA : s1 o i = g o i ∧ s1 o i ≠ c o i := by
        rcases hq with ⟨rfl, _⟩ | ⟨rfl, h⟩
        · simp at hc2
        · exact ⟨h, by rw [h, hgo]; exact hsc⟩
      refine a_region ?_
      refine a_v rfl (s_fieldAddr Try.f128_0 rfl (ev_t rfl)) ?_
      refine a_v rfl (s_load Try.sh126 (ev_t rfl) htc rfl) ?_
      refine a_v rfl (s_load Try.sh124 (ev_t rfl) hkb rfl) ?_
      refine a_v rfl (s_move (ev_t rfl)) ?_
      refine a_s (s_mapput (k := K2 o i) (x := iv (s o i)) (l' := dif s1 (g.upd o i (c o i))) Try.um126 Try.kl hbt1 (okKdif _ _) (ev_t rfl) (ev_agg (us := kv o i) (ev_t rfl)) (ev_t rfl) (okK2 ho hi) (.inl ⟨dif_no hA.1, (show iv (s1 o i) = iv (s o i) by rw [hA.1, hgo]) ▸ dif_ins ho hi hA.1 hA.2⟩)) ?_
      refine a_nil ?_
      repeat first | refine thenA_x ?_ | refine blockA_hit ?_ | refine blockA_x (by decide) ?_
      refine ⟨_, left_shrinks es seen e he, _, seen.push e.born, g.upd o i (c o i), rfl, rfl, ⟨rfl, rfl, rfl, rfl, trivial⟩, hP.step hE he hek, hT8.set (fun cs N h => by rw [hbt1] at h; cases h), hmp _⟩
    obtain ⟨rfl, hne1, rfl⟩ : q = true ∧ s1 o i ≠ g o i ∧ x = s1 o i := by
      rcases hq with hq | hq
      · exact hq
      · rw [hq.1] at hc2; simp at hc2
    refine a_seq (a_draw [false, false, false, false, false, false, false, false, false, false, false, false, false, false, false, false] (_) Try.mixed rfl (by kernel_rfl) (View.le_refl _) ?_)
    refine d_v (fun V' hU => f_plain rfl (s_move (ev_o rfl rfl))) ?_
    refine d_v (fun V' hU => f_plain rfl (s_move (ev_o rfl rfl))) ?_
    refine d_v (fun V' hU => f_plain rfl (s_nilCheck (ev_o rfl rfl))) ?_
    refine d_v (fun V' hU => f_plain rfl (s_fieldAddr Try.f122_1 rfl (ev_o rfl rfl))) ?_
    refine d_v (fun V' hU => f_plain rfl (s_load Try.sh119 (ev_o rfl rfl) (hU _ _ O.row) rfl)) ?_
    refine d_v (fun V' hU => f_plain rfl (s_fieldAddr Try.f124_0 rfl (ev_o rfl rfl))) ?_
    refine d_v (fun V' hU => f_plain rfl (s_load Try.sh3 (ev_o rfl rfl) (hU _ _ hkb) rfl)) ?_
    refine d_v (fun V' hU => f_plain rfl (s_sub (ev_o rfl rfl) ev_c (by omega) (by omega))) ?_
    refine d_v (fun V' hU => f_plain rfl (s_idxs Try.sl119 (ev_o rfl rfl) (ev_o rfl rfl) (by omega) (by omega))) ?_
    refine d_v (fun V' hU => f_plain rfl (s_load Try.sh84 (ev_o rfl rfl) (hU _ _ O.cells) ((cells3 ho _ (by omega)).trans (congrArg some hX)))) ?_
    refine d_v (fun V' hU => f_plain rfl (s_fieldAddr Try.f124_1 rfl (ev_o rfl rfl))) ?_
    refine d_v (fun V' hU => f_plain rfl (s_load Try.sh3 (ev_o rfl rfl) (hU _ _ hkb) rfl)) ?_
    refine d_v (fun V' hU => f_plain rfl (s_idxs Try.sl84 (ev_o rfl rfl) (ev_o rfl rfl) (by omega) (by omega))) ?_
    refine d_v (fun V' hU => f_plain rfl (s_load Try.sh2 (ev_o rfl rfl) (hU _ _ hr) (rdRow hin _ (by omega)))) ?_
    refine d_v (fun V' hU => f_plain rfl (s_cmp (ev_o rfl rfl) (ev_o rfl rfl) rfl)) ?_
    refine d_v (fun V' hU => f_plain rfl (s_assign (ev_o rfl rfl))) ?_
    refine d_nil ?_
    refine a_cond (ev_t rfl) (fun hc3 => ?_) (fun hc3 => a_skip ?_)
    · have hB : s1 o i = c o i := by simp at hc3; omega
      obtain ⟨p1, x1, r1, d1, d2⟩ := dif_del ho hi hne1
      rw [hB] at d2
      refine a_region ?_
      refine a_v rfl (s_fieldAddr Try.f128_0 rfl (ev_t rfl)) ?_
      refine a_v rfl (s_load Try.sh126 (ev_t rfl) htc rfl) ?_
      refine a_v rfl (s_load Try.sh124 (ev_t rfl) hkb rfl) ?_
      refine a_s (s_mapdel (k := K2 o i) (l' := dif s1 (g.upd o i (c o i))) Try.um126 Try.kl hbt1 (okKdif _ _) (ev_t rfl) (ev_agg (us := kv o i) (ev_t rfl)) (okK2 ho hi) (.inr ⟨p1, x1, r1, d1, d2⟩)) ?_
      refine a_nil ?_
      repeat first | refine thenA_x ?_ | refine blockA_hit ?_ | refine blockA_x (by decide) ?_
      refine ⟨_, left_shrinks es seen e he, _, seen.push e.born, g.upd o i (c o i), rfl, rfl, ⟨rfl, rfl, rfl, rfl, trivial⟩, hP.step hE he hek, hT8.set (fun cs N h => by rw [hbt1] at h; cases h), hmp _⟩
    have hC : dif s1 (g.upd o i (c o i)) = dif s1 g := by
      simp at hc3; exact dif_keep ho hi hne1 hc3
    have hF := hmp (g.upd o i (c o i))
    rw [hC, View.set_self hbt1] at hF
    repeat first | refine thenA_x ?_ | refine blockA_hit ?_ | refine blockA_x (by decide) ?_
    refine ⟨_, left_shrinks es seen e he, _, seen.push e.born, g.upd o i (c o i), rfl, rfl, ⟨rfl, rfl, rfl, rfl, trivial⟩, hP.step hE he hek, hT8, hF⟩
  repeat first | refine thenA_x ?_ | refine blockA_hit ?_ | refine blockA_x (by decide) ?_
  obtain ⟨h0, rfl⟩ : (leftOf es seen).size = 0 ∧ Vv = W4 := by
    rcases hx2 with ⟨_, h⟩ | ⟨h, _⟩
    · exact h
    · rw [h] at hc; cases hc
  have hag := hP.done h0 (fun o i ho hi hh => hE.has ho hi (fun e => hh e.symm))
  have n0bt2 : R0 bt = none := nbt2
  have M7 := ((M6.agreeb (base' := c) hag).less (V₀ := R0.set bt (.raw (.map es clock))) (View.le_self_set n0it)).rest (o' := .mp (dif s c))
  refine a_closemap hraw4 hE ?_
  refine a_gen fun W5 hW5 => ?_
  rw [← hW5] at M7
  have hbt5 : W5 bt = some (.mp (dif s c)) := by rw [hW5]; exact View.set_same _ _ _
  have htb5 : W5 tb = some (.row [mpv bt]) := by rw [hW5, View.set_other _ _ (hneR _ _ hR0tb)]; exact htb4
  refine a_seq (a_region ?_)
  refine a_v rfl (s_fieldAddr Try.f128_0 rfl (ev_t rfl)) ?_
  refine a_v rfl (s_load Try.sh126 (ev_t rfl) htb5 rfl) ?_
  refine a_v rfl (s_maplen Try.um126 hbt5 (ev_t rfl)) ?_
  refine a_v rfl (s_assign (ev_t rfl)) ?_
  refine a_v rfl (s_assign ev_c) ?_
  refine a_nil ?_
  refine a_ret ?_
  exact ⟨[_, _], _, ⟨_, _, rfl, ev_t rfl, _, _, rfl, ev_t rfl, rfl⟩, View.le_refl _, rfl, (M7.less (View.le_self_set n0bt2)).less hR0le⟩
#print axioms mk_keep_none
#print axioms mk_keep
end Go.Proofs
