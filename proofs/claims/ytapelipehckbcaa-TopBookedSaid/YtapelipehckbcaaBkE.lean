import Derived.Test.YtapelipehckbcaaBkD
import Derived.Test.YtapelipehckbcaaAvN
set_option linter.unusedVariables false
set_option linter.unusedSimpArgs false
namespace Go.AV
open Go.Proofs (peakF four_eq)
def u8s (l : List Int) : List AVal := l.map fun i => .v (.int .u8 i)
theorem u8get {f : Nat → Int} {i off : Nat} (h : i < 4) (ho : off = i) : rdc false 1 (u8s (four f)) off = some (.v (.int .u8 (f i))) := by
  subst ho
  match off, h with
  | 0, _ => rfl
  | 1, _ => rfl
  | 2, _ => rfl
  | 3, _ => rfl
theorem u8A {f : Nat → Int} : rdc true 4 (u8s (four f)) 0 = some (.agg (u8s (four f))) := rfl
/-- Charges in small numbers. -/
def els (l : Ch) : List AVal := l.map fun c => .agg [.v (.int .u8 c.1), .v (.int .i8 c.2)]
theorem els_len (l : Ch) : (els l).length = l.length := by simp [els]
theorem els_get {l : Ch} {i : Nat} (h : i < l.length) : (els l)[((i : Nat) : Int).toNat]? = some (.agg [.v (.int .u8 (l[i]).1), .v (.int .i8 (l[i]).2)]) := by simp [els, h]
def csOf (l : Ch) : Ch := (l.take 20).map fun c => (c.1 % 4, c.2)
theorem csOf_len (l : Ch) : (csOf l).length = min 20 l.length := by simp [csOf]
theorem csOf_get {l : Ch} {i : Nat} (h : i < l.length) (h' : i < 20) : (csOf l)[i]? = some ((l[i]).1 % 4, (l[i]).2) := by
  simp [csOf, List.getElem?_take, h', h]
def okE (l : Ch) : Prop := ∀ c ∈ l, c.1 ≤ 255 ∧ -128 ≤ c.2 ∧ c.2 ≤ 127
theorem okE.get {l : Ch} (h : okE l) {i : Nat} (hi : i < l.length) : (l[i]).1 ≤ 255 ∧ -128 ≤ (l[i]).2 ∧ (l[i]).2 ≤ 127 := h _ (List.getElem_mem hi)
theorem okE.c {l : Ch} (h : okE l) : okC (csOf l) ∧ ∀ c ∈ csOf l, -128 ≤ c.2 ∧ c.2 ≤ 127 := by
  refine ⟨⟨by rw [csOf_len]; omega, fun c hc => ?_⟩, fun c hc => ?_⟩ <;> simp only [csOf, List.mem_map] at hc <;> obtain ⟨d, hd, rfl⟩ := hc <;> have := h d (List.mem_of_mem_take hd)
  · exact ⟨Nat.mod_lt _ (by omega), by simp only; omega, by simp only; omega⟩
  · exact this.2
theorem ref1 {u : Value} (hu : u.cells = #[u]) (m : Imm) (v : Value) (h : Tr m (.v u) v) : v.cells.size = 1 ∧ (false = true → ∃ c, v = .agg c) ∧ (false = false → v.cells = #[v]) := by
  simp only [Tr] at h; subst h
  exact ⟨by rw [hu]; rfl, fun h => (by cases h), fun _ => hu⟩
theorem chs_cell1 (l : Ch) (c : Nat × Int) : (chs (l ++ [c])).flatMap AVal.cells = (chs l).flatMap AVal.cells ++ [AVal.agg [iv c.1, iv c.2]].flatMap AVal.cells := chs_cells l c
def pre (f : Nat → Int) (i : Nat) : Nat → Int := fun j => if j < i then f j else 0
theorem pre_succ (f : Nat → Int) (i : Nat) : upd (pre f i) i (f i) = pre f (i + 1) := by
  funext j; simp only [upd, pre]
  by_cases h : j = i
  · subst h; simp
  · by_cases h2 : j < i
    · simp [h, h2, Nat.lt_succ_of_lt h2]
    · simp [h, h2, show ¬ j < i + 1 by omega]
theorem pre4 (f : Nat → Int) : four (pre f 4) = four f := Go.Proofs.four_eq fun k hk => by simp [pre, hk]
theorem Acc.le {V V₁ : View} {x : AVal} {sz n : Nat} {cs : List AVal} (h : Acc V x sz n cs V₁) : V₁.le V := fun b o hb => h.some hb
section
variable {ρ : Option Nat} {P : Program} {st : ASt} {V : View}
  {d : Option Tmp} {ty : TypeId} {pos : String} {aft : Array Edge} {gd : Option (Nat × Bool)}
theorem s_conv64 {src dst : TypeId} {y : Operand} {k : IntKind} {i : Int} (hs : ∃ e, P.underlying src = some e) (hd : P.underlying dst = some (.int .i64)) (hy : Ev st y (.v (.int k i))) (h0 : -1099511627776 ≤ i) (h1 : i ≤ 1099511627776) :
    OpS ρ P ⟨d, .convert src dst y, ty, pos, aft, gd⟩ st V (One (iv i) V) := by
  have := s_conv (ρ := ρ) (V := V) (d := d) (ty := ty) (pos := pos) (aft := aft) (gd := gd) hs hd hy
  rwa [wrap64_id (by omega) (by omega)] at this
theorem s_quo3 {t t' : TypeId} {y : Operand} {i : Int} (hy : Ev st y (iv i)) (h0 : 0 ≤ i) (h1 : i ≤ 255) :
    OpS ρ P ⟨d, .binOp .quo t y (.const (.int .i64 3)) t', ty, pos, aft, gd⟩ st V (One (iv (i / 3)) V) := by
  have := s_quo (ρ := ρ) (P := P) (V := V) (d := d) (ty := ty) (pos := pos) (aft := aft) (gd := gd) (t := t) (t' := t') hy (ev_c (u := .int .i64 3)) (by omega)
  rwa [Int.tdiv_eq_ediv_of_nonneg h0, wrap64_id (by omega) (by omega)] at this
theorem s_rem4 {t t' : TypeId} {y : Operand} {k : Nat} (hy : Ev st y (iv k)) :
    OpS ρ P ⟨d, .binOp .rem t y (.const (.int .i64 4)) t', ty, pos, aft, gd⟩ st V (One (iv ((k % 4 : Nat) : Int)) V) :=
  s_rem hy (ev_c (u := .int .i64 4)) (by omega)
end
/-- What is used at the start. -/
def third (nn : Nat → Int) : Nat → Int := fun k => nn k / 3
def ok8 (nn : Nat → Int) : Prop := ∀ k, 0 ≤ nn k ∧ nn k ≤ 255
theorem ok8.b {nn : Nat → Int} (h : ok8 nn) : okB nn (third nn) ∧ small (third nn) := by
  refine ⟨fun k hk => ?_, fun k => ?_⟩ <;> have := h k <;> simp only [third] <;> omega
/-- What is used behind the charges, one by one. -/
def usedF (A U : Nat → Int) (cs : Ch) : Nat → Int := if (firstF A U cs 0 cs.length).2 ≠ 0 then zf else run U cs cs.length
def goodW (A W : Nat → Int) : Prop := ∀ k, k < 4 → 0 ≤ W k ∧ W k ≤ A k
theorem failsF_good {A W : Nat → Int} (h : goodW A W) : failsF A W 0 4 = (-1, 0) := by
  have h0 := h 0; have h1 := h 1; have h2 := h 2; have h3 := h 3
  simp [failsF, badK, show ¬ W 0 > A 0 by omega, show ¬ W 1 > A 1 by omega, show ¬ W 2 > A 2 by omega, show ¬ W 3 > A 3 by omega, show ¬ W 0 < 0 by omega, show ¬ W 1 < 0 by omega, show ¬ W 2 < 0 by omega, show ¬ W 3 < 0 by omega]
theorem failsF_upd {A W : Nat → Int} (h : goodW A W) {c : Nat} (hc : c < 4) (x : Int) : failsF A (upd W c x) 0 4 = if x > A c then ((c : Int), 252) else if x < 0 then ((c : Int), 253) else (-1, 0) := by
  have h0 := h 0; have h1 := h 1; have h2 := h 2; have h3 := h 3
  match c, hc with
  | 0, _ => simp [failsF, badK, upd, show ¬ W 1 > A 1 by omega, show ¬ W 2 > A 2 by omega, show ¬ W 3 > A 3 by omega, show ¬ W 1 < 0 by omega, show ¬ W 2 < 0 by omega, show ¬ W 3 < 0 by omega] <;> (split <;> simp <;> split <;> simp_all)
  | 1, _ => simp [failsF, badK, upd, show ¬ W 0 > A 0 by omega, show ¬ W 2 > A 2 by omega, show ¬ W 3 > A 3 by omega, show ¬ W 0 < 0 by omega, show ¬ W 2 < 0 by omega, show ¬ W 3 < 0 by omega] <;> (split <;> simp <;> split <;> simp_all)
  | 2, _ => simp [failsF, badK, upd, show ¬ W 1 > A 1 by omega, show ¬ W 0 > A 0 by omega, show ¬ W 3 > A 3 by omega, show ¬ W 1 < 0 by omega, show ¬ W 0 < 0 by omega, show ¬ W 3 < 0 by omega] <;> (split <;> simp <;> split <;> simp_all)
  | 3, _ => simp [failsF, badK, upd, show ¬ W 1 > A 1 by omega, show ¬ W 2 > A 2 by omega, show ¬ W 0 > A 0 by omega, show ¬ W 1 < 0 by omega, show ¬ W 2 < 0 by omega, show ¬ W 0 < 0 by omega] <;> (split <;> simp <;> split <;> simp_all)
theorem goodW_upd {A W : Nat → Int} (h : goodW A W) {c : Nat} {x : Int} (h0 : 0 ≤ x) (h1 : x ≤ A c) : goodW A (upd W c x) := by
  intro k hk
  simp only [upd]
  split
  · rename_i he; subst he; exact ⟨h0, h1⟩
  · exact h k hk
theorem run_le_peak (U : Nat → Int) (cs : Ch) : ∀ i k, run U cs i k ≤ peakF U cs i k
  | 0, k => by simp [run, peakF]
  | i + 1, k => by simp only [peakF]; omega
theorem peak_step {U : Nat → Int} {cs : Ch} {i : Nat} (hi : i < cs.length) :
    upd (peakF U cs i) (cs[i]).1 (max (peakF U cs i (cs[i]).1) (run U cs (i + 1) (cs[i]).1)) = peakF U cs (i + 1) := by
  funext k
  simp only [upd, peakF]
  split
  · rename_i he; subst he; rfl
  · rename_i he
    have h1 := run_le_peak U cs i k
    have h2 : run U cs (i + 1) k = run U cs i k := by rw [run_succ hi]; simp [upd, he]
    rw [h2]; omega
theorem run_add (U : Nat → Int) (cs : Ch) : ∀ i k, U k + run zf cs i k = run U cs i k
  | 0, k => by simp [run, zf]
  | i + 1, k => by
    simp only [run]
    cases h : cs[i]? with
    | none => exact run_add U cs i k
    | some c =>
      simp only [upd]
      split
      · have := run_add U cs i c.1; rename_i he; subst he; omega
      · exact run_add U cs i k
def mix (U W : Nat → Int) (i : Nat) : Nat → Int := fun j => if j < i then W j else U j
theorem mix_succ (U W : Nat → Int) (i : Nat) : upd (mix U W i) i (W i) = mix U W (i + 1) := by
  funext j; simp only [upd, mix]
  by_cases h : j = i
  · subst h; simp
  · by_cases h2 : j < i
    · simp [h, h2, Nat.lt_succ_of_lt h2]
    · simp [h, h2, show ¬ j < i + 1 by omega]
theorem mix4 (U W : Nat → Int) : four (mix U W 4) = four W := Go.Proofs.four_eq fun k hk => by simp [mix, hk]
theorem firstF_good {A U : Nat → Int} {cs : Ch} (hc : okC cs) : ∀ m j, goodW A (run U cs j) → (firstF A U cs j m).2 = 0 → j + m ≤ cs.length → ∀ i, j ≤ i → i ≤ j + m → goodW A (run U cs i)
  | 0, j, hg, _, _, i, h1, h2 => by
    have : i = j := by omega
    subst this; exact hg
  | m + 1, j, hg, hF, hl, i, h1, h2 => by
    have hj : j < cs.length := by omega
    have hk := hc.get hj
    simp only [firstF] at hF
    rw [run_succ hj, failsF_upd hg hk.1] at hF
    by_cases g1 : run U cs j (cs[j]).1 + (cs[j]).2 > A (cs[j]).1
    · rw [if_pos g1] at hF; simp at hF
    · by_cases g2 : run U cs j (cs[j]).1 + (cs[j]).2 < 0
      · rw [if_neg g1, if_pos g2] at hF; simp at hF
      · rw [if_neg g1, if_neg g2] at hF
        simp at hF
        rcases Nat.eq_or_lt_of_le h1 with rfl | h
        · exact hg
        · exact firstF_good hc m (j + 1) (by rw [run_succ hj]; exact goodW_upd hg (by omega) (by omega)) hF (by omega) i h (by omega)
theorem run_out {U : Nat → Int} {cs : Ch} (hc : okC cs) {k : Nat} (hk : 4 ≤ k) : ∀ i, i ≤ cs.length → run U cs i k = U k
  | 0, _ => rfl
  | i + 1, h => by
    have hi : i < cs.length := by omega
    have := (hc.get hi).1
    rw [run_succ hi]
    simp only [upd]
    rw [if_neg (by omega)]
    exact run_out hc hk i (by omega)
theorem back_run (U : Nat → Int) (cs : Ch) : ∀ j, j ≤ cs.length → run (run U cs cs.length) (backC cs) j = run U cs (cs.length - j)
  | 0, _ => rfl
  | j + 1, h => by
    have hj : j < cs.length := by omega
    have hb := backC_get hj
    have ih := back_run U cs j (by omega)
    have hi : cs.length - 1 - j < cs.length := by omega
    have e1 : cs.length - j = (cs.length - 1 - j) + 1 := by omega
    have e2 : cs.length - (j + 1) = cs.length - 1 - j := by omega
    simp only [run, hb]
    rw [ih, e1, e2, run_succ hi]
    funext k
    simp only [upd]
    split
    · rename_i he; subst he; simp only [if_true]; omega
    · rfl
theorem firstF_back {A U : Nat → Int} {cs : Ch} (hg : ∀ i, i ≤ cs.length → goodW A (run U cs i)) : ∀ m j, j + m = cs.length → firstF A (run U cs cs.length) (backC cs) j m = (-1, 0)
  | 0, j, _ => rfl
  | m + 1, j, h => by
    simp only [firstF]
    rw [back_run U cs (j + 1) (by omega), failsF_good (hg _ (by omega)), if_neg (by simp)]
    exact firstF_back hg m (j + 1) (by omega)
theorem steps_back {A U : Nat → Int} {cs : Ch} (hg : ∀ i, i ≤ cs.length → goodW A (run U cs i)) : stepsF A (run U cs cs.length) (backC cs) = [.agg (bk A U), iv (-1), iv 0] := by
  have hl := backC_len cs
  rw [stepsF, hl, firstF_back hg cs.length 0 (by omega), if_neg (by simp), back_run U cs _ (Nat.le_refl _), Nat.sub_self]; rfl
theorem okC_back {cs : Ch} (h : okC cs) : okC (backC cs) := by
  refine ⟨by rw [backC_len]; exact h.1, fun c hc => ?_⟩
  simp only [backC, List.mem_map, List.mem_reverse] at hc
  obtain ⟨d, hd, rfl⟩ := hc
  have := h.2 d hd
  exact ⟨this.1, by simp only; omega, by simp only; omega⟩
theorem roomF_eq (A U : Nat → Int) (k : Int) : ∃ r e, roomF A U k = [iv r, iv e] ∧ (0 ≤ k ∧ k < 4 → r = A k.toNat - U k.toNat ∧ e = 0) ∧ (¬ (0 ≤ k ∧ k < 4) → e = 2) := by
  by_cases h : 0 ≤ k ∧ k < 4
  · exact ⟨_, _, by rw [roomF, if_pos h], fun _ => ⟨rfl, rfl⟩, fun h' => absurd h h'⟩
  · exact ⟨_, _, by rw [roomF, if_neg h], fun h' => absurd h' h, fun _ => rfl⟩
theorem limF_eq (A U : Nat → Int) (k : Int) : ∃ (A₃ U₃ : Nat → Int) (f : Int), limF A U k = [.agg (bk A₃ U₃), iv f] ∧ (¬ (0 ≤ k ∧ k < 4) → f = 2) ∧ (0 ≤ k ∧ k < 4 → 40 < U k.toNat → f = 252) ∧ (0 ≤ k ∧ k < 4 → ¬ 40 < U k.toNat → f = 0 ∧ A₃ = upd A k.toNat 40 ∧ U₃ = U) := by
  by_cases h : 0 ≤ k ∧ k < 4
  · by_cases h2 : 40 < U k.toNat
    · exact ⟨_, _, _, by rw [limF, if_pos h, if_pos h2], fun h' => absurd h h', fun _ _ => rfl, fun _ h' => absurd h2 h'⟩
    · exact ⟨_, _, _, by rw [limF, if_pos h, if_neg h2], fun h' => absurd h h', fun _ h' => absurd h' h2, fun _ _ => ⟨rfl, rfl, rfl⟩⟩
  · exact ⟨_, _, _, by rw [limF, if_neg h], fun _ => rfl, fun h' => absurd h' h, fun h' => absurd h' h⟩
end Go.AV
namespace Go.Proofs
open Go.AV
theorem Try.fl49 : fl Try.prog 4 49 = some [.i .i64, .i .i64, .i .i64, .i .i64, .i .i64, .i .i64, .i .i64, .i .i64] := by kernel_rfl
theorem Try.fl24 : fl Try.prog 4 24 = some [.i .i64, .i .i64, .i .i64, .i .i64] := by kernel_rfl
theorem Try.eg49 : Try.prog.eqGuardType Try.prog.depth 49 = false := by kernel_rfl
theorem Try.eg24 : Try.prog.eqGuardType Try.prog.depth 24 = false := by kernel_rfl
section
variable {ρ : Option Nat} {st : ASt} {V : View} {d : Option Tmp} {ty : TypeId} {pos : String} {aft : Array Edge} {gd : Option (Nat × Bool)}
theorem s_neqbk {t' : TypeId} {y z : Operand} {A U : Nat → Int} (hy : Ev st y (.agg (bk A U))) (hz : Ev st z (.agg (bk A U))) : OpS ρ Try.prog ⟨d, .binOp .neq 49 y z t', ty, pos, aft, gd⟩ st V (One (.v (.bool false)) V) :=
  s_eqa (xs := (four A ++ four U).map (Value.int .i64)) (ys := (four A ++ four U).map (Value.int .i64)) Try.fl49 rfl Try.eg49 Try.sh49 hy hz ⟨rfl, rfl, rfl, rfl, rfl, rfl, rfl, rfl, trivial⟩ ⟨rfl, rfl, rfl, rfl, rfl, rfl, rfl, rfl, trivial⟩ (.inr ⟨rfl, by simp⟩)
theorem s_neq4 {t' : TypeId} {y z : Operand} {A : Nat → Int} (hy : Ev st y (.agg (ints (four A)))) (hz : Ev st z (.agg (ints (four A)))) : OpS ρ Try.prog ⟨d, .binOp .neq 24 y z t', ty, pos, aft, gd⟩ st V (One (.v (.bool false)) V) :=
  s_eqa (xs := (four A).map (Value.int .i64)) (ys := (four A).map (Value.int .i64)) Try.fl24 rfl Try.eg24 Try.sh24 hy hz ⟨rfl, rfl, rfl, rfl, trivial⟩ ⟨rfl, rfl, rfl, rfl, trivial⟩ (.inr ⟨rfl, by simp⟩)
end
set_option maxHeartbeats 4000000 in
theorem bk_booked {nn : Nat → Int} {ls : Ch} (hn : ok8 nn) (hl : okE ls) (V : View) : ACalls Try.prog 6 [.agg (u8s (four nn)), .tree 2 (els ls)] V fun x V' =>
    x = .tuple [.agg (ints (four (usedF nn (third nn) (csOf ls)))), .v (.bool true)] ∧ V' = V := by
  have hcs := hl.c.1
  have hb := hn.b.1
  have hsm := hn.b.2
  refine a_fn (fn := Try.f6) Try.func6 rfl ?_ rfl
  refine a_seq (a_region ?_)
  refine a_vp rfl (s_box (ev_t rfl) rfl) fun x V' hx => ?_
  obtain ⟨b2, nb2, rfl, rfl⟩ := hx
  have vb2 : V b2 = none := by simpa [View.set, ] using nb2
  refine a_vp rfl (s_alloc Try.z24) fun x V' hx => ?_
  obtain ⟨b4, nb4, rfl, rfl⟩ := hx
  have eb4b2 : ¬ b4 = b2 := by rintro rfl; simp [View.set, vb2] at nb4
  have eb4b2' : ¬ b2 = b4 := fun h => eb4b2 h.symm
  have vb4 : V b4 = none := by simpa [View.set, vb2, eb4b2, eb4b2'] using nb4
  refine a_v rfl (s_assign ev_c) ?_
  refine a_nil ?_
  refine a_seq (a_region ?_)
  refine a_vp rfl (s_alloc Try.z49) fun x V' hx => ?_
  obtain ⟨b6, nb6, rfl, rfl⟩ := hx
  have eb6b2 : ¬ b6 = b2 := by rintro rfl; simp [View.set, vb2, eb4b2, eb4b2', vb4] at nb6
  have eb6b2' : ¬ b2 = b6 := fun h => eb6b2 h.symm
  have eb6b4 : ¬ b6 = b4 := by rintro rfl; simp [View.set, vb2, eb4b2, eb4b2', vb4, eb6b2, eb6b2'] at nb6
  have eb6b4' : ¬ b4 = b6 := fun h => eb6b4 h.symm
  have vb6 : V b6 = none := by simpa [View.set, vb2, eb4b2, eb4b2', vb4, eb6b2, eb6b2', eb6b4, eb6b4'] using nb6
  refine a_nil ?_
  refine a_seq (a_region ?_)
  refine a_v rfl (s_assign ev_c) ?_
  refine a_nil ?_
  refine a_seq (a_seq (a_region ?_))
  refine a_v rfl (s_load Try.sh22 (ev_t rfl) (by simp [View.set, View.drop, vb2, eb4b2, eb4b2', vb4, eb6b2, eb6b2', eb6b4, eb6b4', vb6] <;> first | exact ⟨rfl, rfl⟩ | exact rfl) u8A) ?_
  refine a_v rfl (s_move ev_c) ?_
  refine a_nil ?_
  refine a_block ?_
  refine a_loop (fun n st V' => ∃ (i : Nat) (l : List (Nat × AVal)), n = 4 - i ∧ i ≤ 4 ∧ st = ⟨l, 431⟩ ∧ SubT [(48, iv i), (47, .agg (u8s (four nn))), (7, .v (.slice none 0 0)), (6, pt b6 0), (4, pt b4 0), (1, .tree 2 (els ls))] l ∧
    V' b4 = some (.row (ints (four zf))) ∧ V' b6 = some (.row (bk (pre nn i) (pre (third nn) i))) ∧ View.le V V') ?_ 4 _ _
    ⟨0, _, rfl, by omega, rfl, ⟨rfl, rfl, rfl, rfl, rfl, rfl, trivial⟩, by simp [View.set, vb2, eb4b2, eb4b2', vb4, eb6b2, eb6b2', eb6b4, eb6b4', vb6] <;> rfl, by simp [View.set, vb2, eb4b2, eb4b2', vb4, eb6b2, eb6b2', eb6b4, eb6b4', vb6] <;> rfl, View.le_set (View.le_set (View.le_set (View.le_refl _) vb2) vb4) vb6⟩
  rintro n st V' ⟨i, l, rfl, hi, rfl, hs, k4, k6, kl⟩
  refine a_forget hs ?_
  refine a_seq (a_region ?_)
  refine a_v rfl (s_cmp (ev_t rfl) ev_c rfl) ?_
  refine a_nil ?_
  refine a_seq (a_cond (ev_t rfl) (fun hc => a_skip ?_) (fun hc => a_exit ?_))
  · have hi4 : i < 4 := by simp at hc; omega
    have hni := hn i
    refine a_seq (a_block ?_)
    refine a_seq (a_region ?_)
    refine a_v rfl (s_move (ev_t rfl)) ?_
    refine a_v rfl (s_index Try.ar22 (ev_t rfl) (ev_t rfl) (by omega) (by omega) (u8get hi4 (by simp))) ?_
    refine a_v rfl (s_assign (ev_t rfl)) ?_
    refine a_v rfl (s_assign (ev_t rfl)) ?_
    refine a_nil ?_
    refine a_seq (a_region ?_)
    refine a_v rfl (s_move (ev_t rfl)) ?_
    refine a_v rfl (s_move (ev_t rfl)) ?_
    refine a_v rfl (s_conv64 ⟨_, Try.ui5⟩ Try.ui3 (ev_t rfl) (by omega) (by omega)) ?_
    refine a_v rfl (s_fieldAddr Try.f49_0 rfl (ev_t rfl)) ?_
    refine a_v rfl (s_idxa Try.ar24 (ev_t rfl) (ev_t rfl) (by omega) (by omega)) ?_
    refine a_s (s_storew Try.sh3 (ev_t rfl) (ev_t rfl) (by simp [View.set, View.drop, k4, k6, eb4b2, eb4b2', eb6b2, eb6b2', eb6b4, eb6b4'] <;> first | exact ⟨rfl, rfl⟩ | exact rfl) rfl rfl (by simp [ints, four]; omega) ((bkwL hi4 (by simp)).trans (by rw [pre_succ]))) ?_
    refine a_nil ?_
    refine a_region ?_
    refine a_v rfl (s_move (ev_t rfl)) ?_
    refine a_v rfl (s_move (ev_t rfl)) ?_
    refine a_v rfl (s_conv64 ⟨_, Try.ui5⟩ Try.ui3 (ev_t rfl) (by omega) (by omega)) ?_
    refine a_v rfl (s_quo3 (ev_t rfl) (by omega) (by omega)) ?_
    refine a_v rfl (s_fieldAddr Try.f49_1 rfl (ev_t rfl)) ?_
    refine a_v rfl (s_idxa Try.ar24 (ev_t rfl) (ev_t rfl) (by omega) (by omega)) ?_
    refine a_s (s_storew Try.sh3 (ev_t rfl) (ev_t rfl) (by simp [View.set, View.drop, k4, k6, eb4b2, eb4b2', eb6b2, eb6b2', eb6b4, eb6b4'] <;> first | exact ⟨rfl, rfl⟩ | exact rfl) rfl rfl (by simp [ints, four]; omega) ((bkwU hi4 (by simp)).trans (by rw [show nn i / 3 = third nn i from rfl, pre_succ]))) ?_
    refine a_nil ?_
    refine a_region ?_
    refine a_v rfl (s_add (ev_t rfl) ev_c (by omega) (by omega)) ?_
    refine a_v rfl (s_move (ev_t rfl)) ?_
    refine a_nil ?_
    exact ⟨4 - (i + 1), by omega, i + 1, _, rfl, by omega, rfl, ⟨rfl, rfl, rfl, rfl, rfl, rfl, trivial⟩, by simp [View.set, k4, k6, eb4b2, eb4b2', eb6b2, eb6b2', eb6b4, eb6b4'], View.set_same _ _ _, View.le_set (View.le_set kl vb6) vb6⟩
  repeat first | refine thenA_x ?_ | refine blockA_hit ?_ | refine blockA_x (by decide) ?_
  have hi4 : i = 4 := by simp at hc; omega
  subst hi4
  have hbk : bk (pre nn 4) (pre (third nn) 4) = bk nn (third nn) := by rw [bk, pre4, pre4]
  rw [hbk] at k6
  clear hbk hc hi hs
  refine a_seq (a_seq (a_region ?_))
  refine a_v rfl (s_assign ev_c) ?_
  refine a_nil ?_
  refine a_block ?_
  have hlen : (csOf ls).length ≤ 20 := by rw [csOf_len]; omega
  refine a_loop (fun n st V₂ => ∃ (i : Nat) (l : List (Nat × AVal)) (x : AVal), n = 20 - i ∧ i ≤ (csOf ls).length ∧ st = ⟨l, 431⟩ ∧ SubT [(10, iv i), (7, x), (6, pt b6 0), (4, pt b4 0), (1, .tree 2 (els ls))] l ∧
    Acc V₂ x 2 i ((chs ((csOf ls).take i)).flatMap AVal.cells) V') ?_ 20 _ _ ⟨0, _, _, rfl, by omega, rfl, ⟨rfl, rfl, rfl, rfl, rfl, trivial⟩, .inl ⟨rfl, rfl, rfl, rfl⟩⟩
  rintro n st V₂ ⟨i, l, x, rfl, hi, rfl, hs, hA⟩
  refine a_forget hs ?_
  refine a_seq (a_seq (a_region ?_))
  refine a_v rfl (s_move (ev_t rfl)) ?_
  refine a_v rfl (s_move (ev_t rfl)) ?_
  refine a_v rfl (s_lent Try.us23 (ev_t rfl)) ?_
  refine a_v rfl (s_cmp (ev_t rfl) (ev_t rfl) rfl) ?_
  refine a_v rfl (s_move (ev_t rfl)) ?_
  refine a_f rfl (f_guard rfl (gd_b rfl (ev_t rfl)) fun h4 => s_move (ev_t rfl)) ?_
  refine a_f rfl (f_guard rfl (gd_b rfl (ev_t rfl)) fun h4 => s_cmp (ev_cond (ev_t rfl) h4) ev_c rfl) ?_
  refine a_v rfl (s_pickand (ev_t rfl) (ev_t rfl)) ?_
  refine a_nil ?_
  refine a_cond (ev_t rfl) (fun hc => a_skip ?_) (fun hc => a_exit ?_)
  · have hi' : i < ls.length ∧ i < 20 := by simp [els_len] at hc; omega
    have hk := hl.get hi'.1
    have hg := csOf_get hi'.1 hi'.2
    refine a_seq (a_block ?_)
    refine a_draw [false, false, false, false, false, false, false, false, false, false, false, false, false, false, false, false, true, false] (V') Try.mixed rfl rfl hA.le ?_
    refine d_v (fun V' hU => f_plain rfl (s_move (ev_o rfl rfl))) ?_
    refine d_v (fun V' hU => f_plain rfl (s_move (ev_o rfl rfl))) ?_
    refine d_v (fun V' hU => f_plain rfl (s_move (ev_o rfl rfl))) ?_
    refine d_v (fun V' hU => f_plain rfl (s_idxt Try.sl23 (ev_o rfl rfl) (ev_o rfl rfl) (by omega) (els_get hi'.1))) ?_
    refine d_v (fun V' hU => f_plain rfl (s_fieldAddrr Try.f29_0 rfl (ev_o rfl rfl) rfl (fun _ => rfl))) ?_
    refine d_v (fun V' hU => f_plain rfl (s_loadr Try.sh5 rfl (ev_o rfl rfl) (ref1 rfl))) ?_
    refine d_v (fun V' hU => f_plain rfl (s_conv64 ⟨_, Try.ui5⟩ Try.ui3 (ev_o rfl rfl) (by omega) (by omega))) ?_
    refine d_v (fun V' hU => f_plain rfl (s_rem4 (ev_o rfl rfl))) ?_
    refine d_v (fun V' hU => f_plain rfl (s_move (ev_o rfl rfl))) ?_
    refine d_v (fun V' hU => f_plain rfl (s_move (ev_o rfl rfl))) ?_
    refine d_v (fun V' hU => f_plain rfl (s_idxt Try.sl23 (ev_o rfl rfl) (ev_o rfl rfl) (by omega) (els_get hi'.1))) ?_
    refine d_v (fun V' hU => f_plain rfl (s_fieldAddrr Try.f29_1 rfl (ev_o rfl rfl) rfl (fun _ => rfl))) ?_
    refine d_v (fun V' hU => f_plain rfl (s_loadr Try.sh27 rfl (ev_o rfl rfl) (ref1 rfl))) ?_
    refine d_v (fun V' hU => f_plain rfl (s_conv64 ⟨_, Try.ui27⟩ Try.ui3 (ev_o rfl rfl) (by omega) (by omega))) ?_
    refine d_v (fun V' hU => f_plain rfl (s_build (cs := [iv (((ls[i]).1 % 4 : Nat) : Int), iv (ls[i]).2]) Try.z52 Try.pl52 (.cons (ev_o rfl rfl) (.cons (ev_o rfl rfl) .nil)) rfl)) ?_
    refine d_v (fun V' hU => f_plain rfl (s_lit (els := [.agg [iv (((ls[i]).1 % 4 : Nat) : Int), iv (ls[i]).2]]) Try.sl50 Try.z52 rfl rfl (.cons (ev_o rfl rfl) .nil) rfl rfl rfl)) ?_
    refine d_vp (s_acc Try.sl50 Try.src50 Try.z52 rfl Try.by52 (ev_o rfl rfl) hA (src_tree (ev_o rfl rfl) (by rfl)) (by rfl) (by simp; omega) (by simp; omega)) fun x V' hx => ?_
    refine ⟨Acc.le hx, ?_⟩
    refine d_v (fun V' hU => f_plain rfl (s_assign (ev_o rfl rfl))) ?_
    refine d_nil ?_
    refine a_region ?_
    refine a_v rfl (s_move (ev_t rfl)) ?_
    refine a_v rfl (s_add (ev_t rfl) ev_c (by omega) (by omega)) ?_
    refine a_v rfl (s_assign (ev_t rfl)) ?_
    refine a_nil ?_
    have ht : (chs ((csOf ls).take (i + 1))).flatMap AVal.cells = (chs ((csOf ls).take i)).flatMap AVal.cells ++ [.agg [iv (((ls[i]).1 % 4 : Nat) : Int), iv (ls[i]).2]].flatMap AVal.cells := by
      rw [List.take_add_one, hg]; exact chs_cells _ _
    exact ⟨20 - (i + 1), by omega, i + 1, _, _, rfl, by rw [csOf_len]; omega, rfl, ⟨rfl, rfl, rfl, rfl, rfl, trivial⟩, by rw [ht]; exact hx⟩
  repeat first | refine thenA_x ?_ | refine blockA_hit ?_ | refine blockA_x (by decide) ?_
  have hi4 : i = (csOf ls).length := by rw [csOf_len] at hi ⊢; simp [els_len] at hc; omega
  subst hi4
  rw [List.take_length] at hA
  refine a_acc_tree hA rfl (chs_len _) (chs_good _) (t := 7) rfl ?_
  clear hA hc hi hs
  generalize csOf ls = cs at *
  have hb6 : okB nn (third nn) := hb
  refine a_seq (a_region ?_)
  refine a_v rfl (s_load Try.sh49 (ev_t rfl) (by simp [View.set, View.drop, k4, k6, eb4b2, eb4b2', eb6b2, eb6b2', eb6b4, eb6b4'] <;> first | exact ⟨rfl, rfl⟩ | exact rfl) bkA) ?_
  refine a_vp rfl (s_alloc Try.z49) fun x V' hx => ?_
  obtain ⟨b11, nb11, rfl, rfl⟩ := hx
  have eb11b6 : ¬ b11 = b6 := by rintro rfl; simp [View.set, k4, k6, eb4b2, eb4b2', eb6b2, eb6b2', eb6b4, eb6b4'] at nb11
  have eb11b6' : ¬ b6 = b11 := fun h => eb11b6 h.symm
  have eb11b4 : ¬ b11 = b4 := by rintro rfl; simp [View.set, k4, k6, eb4b2, eb4b2', eb6b2, eb6b2', eb6b4, eb6b4', eb11b6, eb11b6'] at nb11
  have eb11b4' : ¬ b4 = b11 := fun h => eb11b4 h.symm
  have vb11 : V' b11 = none := by simpa [View.set, k4, k6, eb4b2, eb4b2', eb6b2, eb6b2', eb6b4, eb6b4', eb11b6, eb11b6', eb11b4, eb11b4'] using nb11
  refine a_s (s_storew Try.sh49 (ev_t rfl) (ev_t rfl) (by simp [View.set, View.drop, k4, k6, eb4b2, eb4b2', eb6b2, eb6b2', eb6b4, eb6b4', eb11b6, eb11b6', eb11b4, eb11b4', vb11] <;> first | exact ⟨rfl, rfl⟩ | exact rfl) rfl rfl (by first | decide | (simp [ints, four]; done) | (simp [ints, four]; omega)) (wrBA (L := zf) (U := zf))) ?_
  refine a_v rfl (s_assign ev_c) ?_
  refine a_v rfl (s_assign ev_c) ?_
  refine a_nil ?_
  generalize hVx : View.set (View.set V' b11 _) b11 _ = Vx
  have x4 : Vx b4 = some (.row (ints (four zf))) := by rw [← hVx]; simp [View.set, k4, k6, eb4b2, eb4b2', eb6b2, eb6b2', eb6b4, eb6b4', eb11b6, eb11b6', eb11b4, eb11b4', vb11]
  have x6 : Vx b6 = some (.row (bk nn (third nn))) := by rw [← hVx]; simp [View.set, k4, k6, eb4b2, eb4b2', eb6b2, eb6b2', eb6b4, eb6b4', eb11b6, eb11b6', eb11b4, eb11b4', vb11]
  have x11 : Vx b11 = some (.row (bk nn (third nn))) := by rw [← hVx]; exact View.set_same _ _ _
  have xl : View.le V Vx := by rw [← hVx]; exact View.le_set (View.le_set kl (View.le_none kl vb11)) (View.le_none kl vb11)
  have vb11' := View.le_none kl vb11
  clear hVx k4 k6
  refine a_seq (a_any (β := Nat × Nat × Nat) (fun b j => if j = 5 then pt b.1 0 else if j = 6 then pt b.2.1 0 else if j = 7 then pt b.2.2 0 else if j = 4 then .agg (ints (four zf)) else if j = 1 ∨ j = 3 then .agg (ints (four (third nn))) else pt b6 4)
    (fun b L W => View.le Vx W ∧ (L 8 = true → L 5 = true) ∧ (L 9 = true → L 6 = true) ∧ (L 10 = true → L 7 = true) ∧
    (L 5 = true → Vx b.1 = none ∧ W b.1 = some (.row (ints (four (if L 8 = true then third nn else zf))))) ∧ (L 6 = true → Vx b.2.1 = none ∧ W b.2.1 = some (.row (ints (four (if L 9 = true then third nn else zf))))) ∧
    (L 7 = true → Vx b.2.2 = none ∧ W b.2.2 = some (.row (ints (four zf)))) ∧ (L 5 = true → L 6 = true → b.1 ≠ b.2.1) ∧ (L 5 = true → L 7 = true → b.1 ≠ b.2.2) ∧ (L 6 = true → L 7 = true → b.2.1 ≠ b.2.2)) (0, 0, 0) Try.mixed rfl ⟨View.le_refl _, by simp, by simp, by simp, by simp, by simp, by simp, by simp, by simp, by simp⟩ ?_ ?_)
  · refine ⟨fun b L W hK hj hw => p_f (f_plain rfl (s_fieldAddr Try.f49_1 rfl (ev_t rfl))) ⟨b, fun _ => rfl, fun _ _ => rfl, by simpa [lset] using hK⟩, ?_⟩
    refine ⟨fun b L W hK hj hw => p_f (f_plain rfl (s_load Try.sh24 (ev_t rfl) (hK.1 _ _ x6) bkAU)) ⟨b, fun _ => rfl, fun _ _ => rfl, by simpa [lset] using hK⟩, ?_⟩
    refine ⟨fun b L W hK hj hw => p_f (f_plain rfl (s_fieldAddr Try.f49_1 rfl (ev_t rfl))) ⟨b, fun _ => rfl, fun _ _ => rfl, by simpa [lset] using hK⟩, ?_⟩
    refine ⟨fun b L W hK hj hw => p_f (f_plain rfl (s_load Try.sh24 (ev_t rfl) (hK.1 _ _ x6) bkAU)) ⟨b, fun _ => rfl, fun _ _ => rfl, by simpa [lset] using hK⟩, ?_⟩
    refine ⟨fun b L W hK hj hw => p_f (f_plain rfl (s_builda Try.z24 Try.ar24 .nil rfl)) ⟨b, fun _ => rfl, fun _ _ => rfl, by simpa [lset] using hK⟩, ?_⟩
    refine ⟨fun b L W hK hj hw => p_s rfl (s_alloc Try.z24) fun x V₁ hx => ?_, ?_⟩
    · obtain ⟨c, hc, rfl, rfl⟩ := hx
      obtain ⟨h1, h2, h3, h4, h5, h6, h7, h8, h9, h10⟩ := hK
      have hL : L 8 = false := by
        cases hh : L 8 with
        | false => rfl
        | true => rw [h2 hh] at hj; cases hj
      have ne : ∀ d r, W d = some r → c ≠ d := fun d r hd he => by subst he; rw [hc] at hd; cases hd
      refine ⟨(c, b.2), fun _ => rfl, fun i hi => ?_, View.le_set h1 (View.le_none h1 hc), ?_⟩
      · have : i ≠ 5 := by rintro rfl; rw [hj] at hi; cases hi
        simp [this]
      · simp only [lset]
        refine ⟨?_, ?_, ?_, ?_, ?_, ?_, ?_, ?_, ?_⟩
        · intro h; first | (simp; done) | (simp at h ⊢; exact h2 h) | (simp at h ⊢; intro _; exact h2 h)
        · intro h; first | (simp; done) | (simp at h ⊢; exact h3 h) | (simp at h ⊢; intro _; exact h3 h)
        · intro h; first | (simp; done) | (simp at h ⊢; exact h4 h) | (simp at h ⊢; intro _; exact h4 h)
        · intro _; refine ⟨View.le_none h1 hc, ?_⟩; simp [hL] <;> rfl
        · intro h; obtain ⟨g1, g2⟩ := h6 (by simpa using h); refine ⟨g1, ?_⟩; rw [View.set_other _ _ (Ne.symm (ne _ _ g2))]; simpa using g2
        · intro h; obtain ⟨g1, g2⟩ := h7 (by simpa using h); refine ⟨g1, ?_⟩; rw [View.set_other _ _ (Ne.symm (ne _ _ g2))]; simpa using g2
        · intro _ h; exact ne _ _ (h6 (by simpa using h)).2
        · intro _ h; exact ne _ _ (h7 (by simpa using h)).2
        · intro h h'; exact h10 (by simpa using h) (by simpa using h')
    refine ⟨fun b L W hK hj hw => p_s rfl (s_alloc Try.z24) fun x V₁ hx => ?_, ?_⟩
    · obtain ⟨c, hc, rfl, rfl⟩ := hx
      obtain ⟨h1, h2, h3, h4, h5, h6, h7, h8, h9, h10⟩ := hK
      have hL : L 9 = false := by
        cases hh : L 9 with
        | false => rfl
        | true => rw [h3 hh] at hj; cases hj
      have ne : ∀ d r, W d = some r → c ≠ d := fun d r hd he => by subst he; rw [hc] at hd; cases hd
      refine ⟨(b.1, c, b.2.2), fun _ => rfl, fun i hi => ?_, View.le_set h1 (View.le_none h1 hc), ?_⟩
      · have : i ≠ 6 := by rintro rfl; rw [hj] at hi; cases hi
        simp [this]
      · simp only [lset]
        refine ⟨?_, ?_, ?_, ?_, ?_, ?_, ?_, ?_, ?_⟩
        · intro h; first | (simp; done) | (simp at h ⊢; exact h2 h) | (simp at h ⊢; intro _; exact h2 h)
        · intro h; first | (simp; done) | (simp at h ⊢; exact h3 h) | (simp at h ⊢; intro _; exact h3 h)
        · intro h; first | (simp; done) | (simp at h ⊢; exact h4 h) | (simp at h ⊢; intro _; exact h4 h)
        · intro h; obtain ⟨g1, g2⟩ := h5 (by simpa using h); refine ⟨g1, ?_⟩; rw [View.set_other _ _ (Ne.symm (ne _ _ g2))]; simpa using g2
        · intro _; refine ⟨View.le_none h1 hc, ?_⟩; simp [hL] <;> rfl
        · intro h; obtain ⟨g1, g2⟩ := h7 (by simpa using h); refine ⟨g1, ?_⟩; rw [View.set_other _ _ (Ne.symm (ne _ _ g2))]; simpa using g2
        · intro h _; exact Ne.symm (ne _ _ (h5 (by simpa using h)).2)
        · intro h h'; exact h9 (by simpa using h) (by simpa using h')
        · intro _ h; exact ne _ _ (h7 (by simpa using h)).2
    refine ⟨fun b L W hK hj hw => p_s rfl (s_alloc Try.z24) fun x V₁ hx => ?_, ?_⟩
    · obtain ⟨c, hc, rfl, rfl⟩ := hx
      obtain ⟨h1, h2, h3, h4, h5, h6, h7, h8, h9, h10⟩ := hK
      have hL : L 10 = false := by
        cases hh : L 10 with
        | false => rfl
        | true => rw [h4 hh] at hj; cases hj
      have ne : ∀ d r, W d = some r → c ≠ d := fun d r hd he => by subst he; rw [hc] at hd; cases hd
      refine ⟨(b.1, b.2.1, c), fun _ => rfl, fun i hi => ?_, View.le_set h1 (View.le_none h1 hc), ?_⟩
      · have : i ≠ 7 := by rintro rfl; rw [hj] at hi; cases hi
        simp [this]
      · simp only [lset]
        refine ⟨?_, ?_, ?_, ?_, ?_, ?_, ?_, ?_, ?_⟩
        · intro h; first | (simp; done) | (simp at h ⊢; exact h2 h) | (simp at h ⊢; intro _; exact h2 h)
        · intro h; first | (simp; done) | (simp at h ⊢; exact h3 h) | (simp at h ⊢; intro _; exact h3 h)
        · intro h; first | (simp; done) | (simp at h ⊢; exact h4 h) | (simp at h ⊢; intro _; exact h4 h)
        · intro h; obtain ⟨g1, g2⟩ := h5 (by simpa using h); refine ⟨g1, ?_⟩; rw [View.set_other _ _ (Ne.symm (ne _ _ g2))]; simpa using g2
        · intro h; obtain ⟨g1, g2⟩ := h6 (by simpa using h); refine ⟨g1, ?_⟩; rw [View.set_other _ _ (Ne.symm (ne _ _ g2))]; simpa using g2
        · intro _; refine ⟨View.le_none h1 hc, ?_⟩; simp [hL] <;> rfl
        · intro h h'; exact h8 (by simpa using h) (by simpa using h')
        · intro h _; exact Ne.symm (ne _ _ (h5 (by simpa using h)).2)
        · intro h _; exact Ne.symm (ne _ _ (h6 (by simpa using h)).2)
    refine ⟨fun b L W hK hj hw => ?_, ?_⟩
    · obtain ⟨h1, h2, h3, h4, h5, h6, h7, h8, h9, h10⟩ := hK
      have hL5 : L 5 = true := hw 5 rfl
      have hL6 : L 6 = true := hw 6 rfl
      have hL7 : L 7 = true := hw 7 rfl
      have hne1 := h8 hL5 hL6
      have hne2 := h9 hL5 hL7
      refine p_s rfl (s_storew Try.sh24 (ev_t rfl) (ev_t rfl) (h5 hL5).2 rfl rfl (by first | decide | (simp [ints, four]; done)) wrA) fun x V₁ hx => ?_
      obtain ⟨rfl, rfl⟩ := hx
      refine ⟨b, fun h => absurd rfl h, fun _ _ => rfl, View.le_set h1 (h5 hL5).1, ?_⟩
      simp only [lset]
      refine ⟨fun _ => hL5, fun _ => hL6, fun _ => hL7, fun _ => ⟨(h5 hL5).1, ?_⟩, fun _ => ⟨(h6 hL6).1, ?_⟩, fun _ => ⟨(h7 hL7).1, ?_⟩, fun _ _ => h8 hL5 hL6, fun _ _ => h9 hL5 hL7, fun _ _ => h10 hL6 hL7⟩
      · simp [View.set_same]
      · rw [View.set_other _ _ (Ne.symm hne1)]; simpa using (h6 hL6).2
      · rw [View.set_other _ _ (Ne.symm hne2)]; simpa using (h7 hL7).2
    refine ⟨fun b L W hK hj hw => ?_, ?_⟩
    · obtain ⟨h1, h2, h3, h4, h5, h6, h7, h8, h9, h10⟩ := hK
      have hL5 : L 5 = true := hw 5 rfl
      have hL6 : L 6 = true := hw 6 rfl
      have hL7 : L 7 = true := hw 7 rfl
      have hne1 := (h8 hL5 hL6).symm
      have hne2 := h10 hL6 hL7
      refine p_s rfl (s_storew Try.sh24 (ev_t rfl) (ev_t rfl) (h6 hL6).2 rfl rfl (by first | decide | (simp [ints, four]; done)) wrA) fun x V₁ hx => ?_
      obtain ⟨rfl, rfl⟩ := hx
      refine ⟨b, fun h => absurd rfl h, fun _ _ => rfl, View.le_set h1 (h6 hL6).1, ?_⟩
      simp only [lset]
      refine ⟨fun _ => hL5, fun _ => hL6, fun _ => hL7, fun _ => ⟨(h5 hL5).1, ?_⟩, fun _ => ⟨(h6 hL6).1, ?_⟩, fun _ => ⟨(h7 hL7).1, ?_⟩, fun _ _ => h8 hL5 hL6, fun _ _ => h9 hL5 hL7, fun _ _ => h10 hL6 hL7⟩
      · rw [View.set_other _ _ (Ne.symm hne1)]; simpa using (h5 hL5).2
      · simp [View.set_same]
      · rw [View.set_other _ _ (Ne.symm hne2)]; simpa using (h7 hL7).2
    refine ⟨fun b L W hK hj hw => ?_, trivial⟩
    · obtain ⟨h1, h2, h3, h4, h5, h6, h7, h8, h9, h10⟩ := hK
      have hL5 : L 5 = true := hw 5 rfl
      have hL6 : L 6 = true := hw 6 rfl
      have hL7 : L 7 = true := hw 7 rfl
      have hne1 := (h9 hL5 hL7).symm
      have hne2 := (h10 hL6 hL7).symm
      refine p_s rfl (s_storew Try.sh24 (ev_t rfl) (ev_t rfl) (h7 hL7).2 rfl rfl (by first | decide | (simp [ints, four]; done)) wrA) fun x V₁ hx => ?_
      obtain ⟨rfl, rfl⟩ := hx
      refine ⟨b, fun h => absurd rfl h, fun _ _ => rfl, View.le_set h1 (h7 hL7).1, ?_⟩
      simp only [lset]
      refine ⟨fun _ => hL5, fun _ => hL6, fun _ => hL7, fun _ => ⟨(h5 hL5).1, ?_⟩, fun _ => ⟨(h6 hL6).1, ?_⟩, fun _ => ⟨(h7 hL7).1, ?_⟩, fun _ _ => h8 hL5 hL6, fun _ _ => h9 hL5 hL7, fun _ _ => h10 hL6 hL7⟩
      · rw [View.set_other _ _ (Ne.symm hne1)]; simpa using (h5 hL5).2
      · rw [View.set_other _ _ (Ne.symm hne2)]; simpa using (h6 hL6).2
      · simp [View.set_same]
  rintro ⟨b14, b15, b16⟩ L W hall ⟨h1, h2, h3, h4, h5, h6, h7, h8, h9, h10⟩
  have y14 := h5 (hall 5 (by decide))
  have y15 := h6 (hall 6 (by decide))
  have y16 := h7 (hall 7 (by decide))
  rw [hall 8 (by decide), if_pos rfl] at y14
  rw [hall 9 (by decide), if_pos rfl] at y15
  have n45 : ¬ b14 = b15 := h8 (hall 5 (by decide)) (hall 6 (by decide))
  have n46 : ¬ b14 = b16 := h9 (hall 5 (by decide)) (hall 7 (by decide))
  have n56 : ¬ b15 = b16 := h10 (hall 6 (by decide)) (hall 7 (by decide))
  obtain ⟨z14, y14⟩ := y14
  obtain ⟨z15, y15⟩ := y15
  obtain ⟨z16, y16⟩ := y16
  clear h2 h3 h4 h5 h6 h7 h8 h9 h10 hall
  simp only at z14 y14 z15 y15 z16 y16
  have eb14b11 : ¬ b14 = b11 := by rintro rfl; simp [View.set, eb4b2, eb4b2', eb6b2, eb6b2', eb6b4, eb6b4', eb11b6, eb11b6', eb11b4, eb11b4', x4, x6, x11, z14, z15, z16] at z14
  have eb14b11' : ¬ b11 = b14 := fun h => eb14b11 h.symm
  have eb14b6 : ¬ b14 = b6 := by rintro rfl; simp [View.set, eb4b2, eb4b2', eb6b2, eb6b2', eb6b4, eb6b4', eb11b6, eb11b6', eb11b4, eb11b4', x4, x6, x11, z14, z15, z16, eb14b11, eb14b11'] at z14
  have eb14b6' : ¬ b6 = b14 := fun h => eb14b6 h.symm
  have eb14b4 : ¬ b14 = b4 := by rintro rfl; simp [View.set, eb4b2, eb4b2', eb6b2, eb6b2', eb6b4, eb6b4', eb11b6, eb11b6', eb11b4, eb11b4', x4, x6, x11, z14, z15, z16, eb14b11, eb14b11', eb14b6, eb14b6'] at z14
  have eb14b4' : ¬ b4 = b14 := fun h => eb14b4 h.symm
  have eb15b11 : ¬ b15 = b11 := by rintro rfl; simp [View.set, eb4b2, eb4b2', eb6b2, eb6b2', eb6b4, eb6b4', eb11b6, eb11b6', eb11b4, eb11b4', x4, x6, x11, z14, z15, z16, eb14b11, eb14b11', eb14b6, eb14b6', eb14b4, eb14b4'] at z15
  have eb15b11' : ¬ b11 = b15 := fun h => eb15b11 h.symm
  have eb15b6 : ¬ b15 = b6 := by rintro rfl; simp [View.set, eb4b2, eb4b2', eb6b2, eb6b2', eb6b4, eb6b4', eb11b6, eb11b6', eb11b4, eb11b4', x4, x6, x11, z14, z15, z16, eb14b11, eb14b11', eb14b6, eb14b6', eb14b4, eb14b4', eb15b11, eb15b11'] at z15
  have eb15b6' : ¬ b6 = b15 := fun h => eb15b6 h.symm
  have eb15b4 : ¬ b15 = b4 := by rintro rfl; simp [View.set, eb4b2, eb4b2', eb6b2, eb6b2', eb6b4, eb6b4', eb11b6, eb11b6', eb11b4, eb11b4', x4, x6, x11, z14, z15, z16, eb14b11, eb14b11', eb14b6, eb14b6', eb14b4, eb14b4', eb15b11, eb15b11', eb15b6, eb15b6'] at z15
  have eb15b4' : ¬ b4 = b15 := fun h => eb15b4 h.symm
  have eb16b11 : ¬ b16 = b11 := by rintro rfl; simp [View.set, eb4b2, eb4b2', eb6b2, eb6b2', eb6b4, eb6b4', eb11b6, eb11b6', eb11b4, eb11b4', x4, x6, x11, z14, z15, z16, eb14b11, eb14b11', eb14b6, eb14b6', eb14b4, eb14b4', eb15b11, eb15b11', eb15b6, eb15b6', eb15b4, eb15b4'] at z16
  have eb16b11' : ¬ b11 = b16 := fun h => eb16b11 h.symm
  have eb16b6 : ¬ b16 = b6 := by rintro rfl; simp [View.set, eb4b2, eb4b2', eb6b2, eb6b2', eb6b4, eb6b4', eb11b6, eb11b6', eb11b4, eb11b4', x4, x6, x11, z14, z15, z16, eb14b11, eb14b11', eb14b6, eb14b6', eb14b4, eb14b4', eb15b11, eb15b11', eb15b6, eb15b6', eb15b4, eb15b4', eb16b11, eb16b11'] at z16
  have eb16b6' : ¬ b6 = b16 := fun h => eb16b6 h.symm
  have eb16b4 : ¬ b16 = b4 := by rintro rfl; simp [View.set, eb4b2, eb4b2', eb6b2, eb6b2', eb6b4, eb6b4', eb11b6, eb11b6', eb11b4, eb11b4', x4, x6, x11, z14, z15, z16, eb14b11, eb14b11', eb14b6, eb14b6', eb14b4, eb14b4', eb15b11, eb15b11', eb15b6, eb15b6', eb15b4, eb15b4', eb16b11, eb16b11', eb16b6, eb16b6'] at z16
  have eb16b4' : ¬ b4 = b16 := fun h => eb16b4 h.symm
  have n54 : ¬ b15 = b14 := fun h => n45 h.symm
  have n64 : ¬ b16 = b14 := fun h => n46 h.symm
  have n65 : ¬ b16 = b15 := fun h => n56 h.symm
  have vl : View.le V W := View.le_trans xl h1
  have v14 := View.le_none xl z14
  have v15 := View.le_none xl z15
  have v16 := View.le_none xl z16
  have k4 := h1 _ _ x4
  have k6 := h1 _ _ x6
  have k11 := h1 _ _ x11
  clear x4 x6 x11 z14 z15 z16 xl
  refine a_seq (a_seq (a_region ?_))
  refine a_v rfl (s_move (ev_t rfl)) ?_
  refine a_v rfl (s_lent Try.us50 (ev_t rfl)) ?_
  refine a_v rfl (s_move ev_c) ?_
  refine a_nil ?_
  refine a_block ?_
  refine a_loop (fun n st V₂ => ∃ (i : Nat) (l : List (Nat × AVal)) (S : Nat → Int) (at_ due : Int), n = cs.length - i ∧ i ≤ cs.length ∧ st = ⟨l, 431⟩ ∧ SubT [(99, iv i), (98, iv (chs cs).length), (13, iv due), (12, iv at_), (97, .tree 2 (chs cs)), (16, pt b16 0), (15, pt b15 0), (14, pt b14 0), (11, pt b11 0), (7, .tree 2 (chs cs)), (6, pt b6 0), (4, pt b4 0)] l ∧
    V₂ b4 = some (.row (ints (four zf))) ∧ V₂ b6 = some (.row (bk nn (third nn))) ∧ V₂ b11 = some (.row (bk nn S)) ∧ V₂ b14 = some (.row (ints (four (peakF (third nn) cs i)))) ∧ V₂ b15 = some (.row (ints (four (run (third nn) cs i)))) ∧
    V₂ b16 = some (.row (ints (four (run zf cs i)))) ∧ View.le V V₂ ∧
    ((due = 0 ∧ at_ = -1 ∧ S = run (third nn) cs i ∧ goodW nn S ∧ firstF nn (third nn) cs 0 cs.length = firstF nn (third nn) cs i (cs.length - i)) ∨ (due ≠ 0 ∧ firstF nn (third nn) cs 0 cs.length = (at_, due)))) ?_ cs.length _ _
    ⟨0, _, third nn, -1, 0, rfl, by omega, rfl, ⟨rfl, rfl, rfl, rfl, rfl, rfl, rfl, rfl, rfl, rfl, rfl, rfl, trivial⟩, k4, k6, k11, y14, y15, y16, vl, .inl ⟨rfl, rfl, rfl, fun k hk => by have := hb k hk; omega, rfl⟩⟩
  clear k4 k6 k11 y14 y15 y16
  rintro n st V₂ ⟨i, l, S, at_, due, rfl, hi, rfl, hs, k4, k6, k11, k14, k15, k16, kl, hD⟩
  refine a_forget hs ?_
  refine a_seq (a_region ?_)
  refine a_v rfl (s_cmp (ev_t rfl) (ev_t rfl) rfl) ?_
  refine a_nil ?_
  refine a_seq (a_cond (ev_t rfl) (fun hc => a_skip ?_) (fun hc => a_exit ?_))
  · have hi' : i < cs.length := by simp [chs_len] at hc; omega
    have hk := hcs.get hi'
    have hs1 := run_small hsm hcs i (by omega) (cs[i]).1
    have hs2 := run_small small_zf hcs i (by omega) (cs[i]).1
    refine a_seq (a_block ?_)
    refine a_seq (a_region ?_)
    refine a_v rfl (s_move (ev_t rfl)) ?_
    refine a_v rfl (s_idxt Try.sl50 (ev_t rfl) (ev_t rfl) (by omega) (chs_get hi')) ?_
    refine a_v rfl (s_loadr Try.sh52 rfl (ev_t rfl) (ref2 _ _)) ?_
    refine a_vp rfl (s_alloc Try.z52) fun x V' hx => ?_
    obtain ⟨b18, nb18, rfl, rfl⟩ := hx
    have eb18b4 : ¬ b18 = b4 := by rintro rfl; simp [View.set, k4, k6, k11, k14, k15, k16, eb4b2, eb4b2', eb6b2, eb6b2', eb6b4, eb6b4', eb11b6, eb11b6', eb11b4, eb11b4', eb14b11, eb14b11', eb14b6, eb14b6', eb14b4, eb14b4', eb15b11, eb15b11', eb15b6, eb15b6', eb15b4, eb15b4', eb16b11, eb16b11', eb16b6, eb16b6', eb16b4, eb16b4', n45, n46, n56, n54, n64, n65] at nb18
    have eb18b4' : ¬ b4 = b18 := fun h => eb18b4 h.symm
    have eb18b6 : ¬ b18 = b6 := by rintro rfl; simp [View.set, k4, k6, k11, k14, k15, k16, eb4b2, eb4b2', eb6b2, eb6b2', eb6b4, eb6b4', eb11b6, eb11b6', eb11b4, eb11b4', eb14b11, eb14b11', eb14b6, eb14b6', eb14b4, eb14b4', eb15b11, eb15b11', eb15b6, eb15b6', eb15b4, eb15b4', eb16b11, eb16b11', eb16b6, eb16b6', eb16b4, eb16b4', n45, n46, n56, n54, n64, n65, eb18b4, eb18b4'] at nb18
    have eb18b6' : ¬ b6 = b18 := fun h => eb18b6 h.symm
    have eb18b11 : ¬ b18 = b11 := by rintro rfl; simp [View.set, k4, k6, k11, k14, k15, k16, eb4b2, eb4b2', eb6b2, eb6b2', eb6b4, eb6b4', eb11b6, eb11b6', eb11b4, eb11b4', eb14b11, eb14b11', eb14b6, eb14b6', eb14b4, eb14b4', eb15b11, eb15b11', eb15b6, eb15b6', eb15b4, eb15b4', eb16b11, eb16b11', eb16b6, eb16b6', eb16b4, eb16b4', n45, n46, n56, n54, n64, n65, eb18b4, eb18b4', eb18b6, eb18b6'] at nb18
    have eb18b11' : ¬ b11 = b18 := fun h => eb18b11 h.symm
    have eb18b14 : ¬ b18 = b14 := by rintro rfl; simp [View.set, k4, k6, k11, k14, k15, k16, eb4b2, eb4b2', eb6b2, eb6b2', eb6b4, eb6b4', eb11b6, eb11b6', eb11b4, eb11b4', eb14b11, eb14b11', eb14b6, eb14b6', eb14b4, eb14b4', eb15b11, eb15b11', eb15b6, eb15b6', eb15b4, eb15b4', eb16b11, eb16b11', eb16b6, eb16b6', eb16b4, eb16b4', n45, n46, n56, n54, n64, n65, eb18b4, eb18b4', eb18b6, eb18b6', eb18b11, eb18b11'] at nb18
    have eb18b14' : ¬ b14 = b18 := fun h => eb18b14 h.symm
    have eb18b15 : ¬ b18 = b15 := by rintro rfl; simp [View.set, k4, k6, k11, k14, k15, k16, eb4b2, eb4b2', eb6b2, eb6b2', eb6b4, eb6b4', eb11b6, eb11b6', eb11b4, eb11b4', eb14b11, eb14b11', eb14b6, eb14b6', eb14b4, eb14b4', eb15b11, eb15b11', eb15b6, eb15b6', eb15b4, eb15b4', eb16b11, eb16b11', eb16b6, eb16b6', eb16b4, eb16b4', n45, n46, n56, n54, n64, n65, eb18b4, eb18b4', eb18b6, eb18b6', eb18b11, eb18b11', eb18b14, eb18b14'] at nb18
    have eb18b15' : ¬ b15 = b18 := fun h => eb18b15 h.symm
    have eb18b16 : ¬ b18 = b16 := by rintro rfl; simp [View.set, k4, k6, k11, k14, k15, k16, eb4b2, eb4b2', eb6b2, eb6b2', eb6b4, eb6b4', eb11b6, eb11b6', eb11b4, eb11b4', eb14b11, eb14b11', eb14b6, eb14b6', eb14b4, eb14b4', eb15b11, eb15b11', eb15b6, eb15b6', eb15b4, eb15b4', eb16b11, eb16b11', eb16b6, eb16b6', eb16b4, eb16b4', n45, n46, n56, n54, n64, n65, eb18b4, eb18b4', eb18b6, eb18b6', eb18b11, eb18b11', eb18b14, eb18b14', eb18b15, eb18b15'] at nb18
    have eb18b16' : ¬ b16 = b18 := fun h => eb18b16 h.symm
    have vb18 : V₂ b18 = none := by simpa [View.set, k4, k6, k11, k14, k15, k16, eb4b2, eb4b2', eb6b2, eb6b2', eb6b4, eb6b4', eb11b6, eb11b6', eb11b4, eb11b4', eb14b11, eb14b11', eb14b6, eb14b6', eb14b4, eb14b4', eb15b11, eb15b11', eb15b6, eb15b6', eb15b4, eb15b4', eb16b11, eb16b11', eb16b6, eb16b6', eb16b4, eb16b4', n45, n46, n56, n54, n64, n65, eb18b4, eb18b4', eb18b6, eb18b6', eb18b11, eb18b11', eb18b14, eb18b14', eb18b15, eb18b15', eb18b16, eb18b16'] using nb18
    refine a_v rfl (s_assign (ev_t rfl)) ?_
    refine a_s (s_storew Try.sh52 (ev_t rfl) (ev_t rfl) (by simp [View.set, View.drop, k4, k6, k11, k14, k15, k16, eb4b2, eb4b2', eb6b2, eb6b2', eb6b4, eb6b4', eb11b6, eb11b6', eb11b4, eb11b4', eb14b11, eb14b11', eb14b6, eb14b6', eb14b4, eb14b4', eb15b11, eb15b11', eb15b6, eb15b6', eb15b4, eb15b4', eb16b11, eb16b11', eb16b6, eb16b6', eb16b4, eb16b4', n45, n46, n56, n54, n64, n65, eb18b4, eb18b4', eb18b6, eb18b6', eb18b11, eb18b11', eb18b14, eb18b14', eb18b15, eb18b15', eb18b16, eb18b16', vb18] <;> first | exact ⟨rfl, rfl⟩ | exact rfl) rfl rfl (by first | decide | (simp [ints, four]; done) | (simp [ints, four]; omega)) rfl) ?_
    refine a_nil ?_
    refine a_seq (a_draw [false, false, false, false, false, false, false, false, true] (_) Try.mixed rfl rfl (View.le_refl _) ?_)
    refine d_v (fun V' hU => f_plain rfl (s_fieldAddr Try.f52_0 rfl (ev_o rfl rfl))) ?_
    refine d_v (fun V' hU => f_plain rfl (s_load Try.sh3 (ev_o rfl rfl) (hU _ _ (by simp [View.set, View.drop, k4, k6, k11, k14, k15, k16, eb4b2, eb4b2', eb6b2, eb6b2', eb6b4, eb6b4', eb11b6, eb11b6', eb11b4, eb11b4', eb14b11, eb14b11', eb14b6, eb14b6', eb14b4, eb14b4', eb15b11, eb15b11', eb15b6, eb15b6', eb15b4, eb15b4', eb16b11, eb16b11', eb16b6, eb16b6', eb16b4, eb16b4', n45, n46, n56, n54, n64, n65, eb18b4, eb18b4', eb18b6, eb18b6', eb18b11, eb18b11', eb18b14, eb18b14', eb18b15, eb18b15', eb18b16, eb18b16', vb18] <;> first | exact ⟨rfl, rfl⟩ | exact rfl)) rfl)) ?_
    refine d_v (fun V' hU => f_plain rfl (s_idxa Try.ar24 (ev_o rfl rfl) (ev_o rfl rfl) (by omega) (by omega))) ?_
    refine d_v (fun V' hU => f_plain rfl (s_load Try.sh3 (ev_o rfl rfl) (hU _ _ (by simp [View.set, View.drop, k4, k6, k11, k14, k15, k16, eb4b2, eb4b2', eb6b2, eb6b2', eb6b4, eb6b4', eb11b6, eb11b6', eb11b4, eb11b4', eb14b11, eb14b11', eb14b6, eb14b6', eb14b4, eb14b4', eb15b11, eb15b11', eb15b6, eb15b6', eb15b4, eb15b4', eb16b11, eb16b11', eb16b6, eb16b6', eb16b4, eb16b4', n45, n46, n56, n54, n64, n65, eb18b4, eb18b4', eb18b6, eb18b6', eb18b11, eb18b11', eb18b14, eb18b14', eb18b15, eb18b15', eb18b16, eb18b16', vb18] <;> first | exact ⟨rfl, rfl⟩ | exact rfl)) (rd4 hk.1 (by simp)))) ?_
    refine d_v (fun V' hU => f_plain rfl (s_fieldAddr Try.f52_1 rfl (ev_o rfl rfl))) ?_
    refine d_v (fun V' hU => f_plain rfl (s_load Try.sh3 (ev_o rfl rfl) (hU _ _ (by simp [View.set, View.drop, k4, k6, k11, k14, k15, k16, eb4b2, eb4b2', eb6b2, eb6b2', eb6b4, eb6b4', eb11b6, eb11b6', eb11b4, eb11b4', eb14b11, eb14b11', eb14b6, eb14b6', eb14b4, eb14b4', eb15b11, eb15b11', eb15b6, eb15b6', eb15b4, eb15b4', eb16b11, eb16b11', eb16b6, eb16b6', eb16b4, eb16b4', n45, n46, n56, n54, n64, n65, eb18b4, eb18b4', eb18b6, eb18b6', eb18b11, eb18b11', eb18b14, eb18b14', eb18b15, eb18b15', eb18b16, eb18b16', vb18] <;> first | exact ⟨rfl, rfl⟩ | exact rfl)) rfl)) ?_
    refine d_v (fun V' hU => f_plain rfl (s_add (ev_o rfl rfl) (ev_o rfl rfl) (by omega) (by omega))) ?_
    refine d_v (fun V' hU => f_plain rfl (s_idxa Try.ar24 (ev_o rfl rfl) (ev_o rfl rfl) (by omega) (by omega))) ?_
    first | refine d_b (s_storew Try.sh3 (ev_o rfl rfl) (ev_o rfl rfl) (by simp [View.set, View.drop, k4, k6, k11, k14, k15, k16, eb4b2, eb4b2', eb6b2, eb6b2', eb6b4, eb6b4', eb11b6, eb11b6', eb11b4, eb11b4', eb14b11, eb14b11', eb14b6, eb14b6', eb14b4, eb14b4', eb15b11, eb15b11', eb15b6, eb15b6', eb15b4, eb15b4', eb16b11, eb16b11', eb16b6, eb16b6', eb16b4, eb16b4', n45, n46, n56, n54, n64, n65, eb18b4, eb18b4', eb18b6, eb18b6', eb18b11, eb18b11', eb18b14, eb18b14', eb18b15, eb18b15', eb18b16, eb18b16', vb18] <;> first | exact ⟨rfl, rfl⟩ | exact rfl) rfl rfl (by simp [ints, four]; omega) ((wr4 hk.1 (by simp)).trans (congrArg (fun f => ints (four f)) (run_succ hi').symm))) rfl _ (View.le_refl _) ?_ | refine d_e (s_storew Try.sh3 (ev_o rfl rfl) (ev_o rfl rfl) (by simp [View.set, View.drop, k4, k6, k11, k14, k15, k16, eb4b2, eb4b2', eb6b2, eb6b2', eb6b4, eb6b4', eb11b6, eb11b6', eb11b4, eb11b4', eb14b11, eb14b11', eb14b6, eb14b6', eb14b4, eb14b4', eb15b11, eb15b11', eb15b6, eb15b6', eb15b4, eb15b4', eb16b11, eb16b11', eb16b6, eb16b6', eb16b4, eb16b4', n45, n46, n56, n54, n64, n65, eb18b4, eb18b4', eb18b6, eb18b6', eb18b11, eb18b11', eb18b14, eb18b14', eb18b15, eb18b15', eb18b16, eb18b16', vb18] <;> first | exact ⟨rfl, rfl⟩ | exact rfl) rfl rfl (by simp [ints, four]; omega) ((wr4 hk.1 (by simp)).trans (congrArg (fun f => ints (four f)) (run_succ hi').symm))) (by first | exact View.le_refl _ | assumption) ?_
    refine d_nil ?_
    refine a_seq (a_draw [false, false, false, false, false, false, false, false, false, false, false, false, true] (_) Try.mixed rfl rfl (View.le_refl _) ?_)
    refine d_v (fun V' hU => f_plain rfl (s_fieldAddr Try.f52_0 rfl (ev_o rfl rfl))) ?_
    refine d_v (fun V' hU => f_plain rfl (s_load Try.sh3 (ev_o rfl rfl) (hU _ _ (by simp [View.set, View.drop, k4, k6, k11, k14, k15, k16, eb4b2, eb4b2', eb6b2, eb6b2', eb6b4, eb6b4', eb11b6, eb11b6', eb11b4, eb11b4', eb14b11, eb14b11', eb14b6, eb14b6', eb14b4, eb14b4', eb15b11, eb15b11', eb15b6, eb15b6', eb15b4, eb15b4', eb16b11, eb16b11', eb16b6, eb16b6', eb16b4, eb16b4', n45, n46, n56, n54, n64, n65, eb18b4, eb18b4', eb18b6, eb18b6', eb18b11, eb18b11', eb18b14, eb18b14', eb18b15, eb18b15', eb18b16, eb18b16', vb18] <;> first | exact ⟨rfl, rfl⟩ | exact rfl)) rfl)) ?_
    refine d_v (fun V' hU => f_plain rfl (s_fieldAddr Try.f52_0 rfl (ev_o rfl rfl))) ?_
    refine d_v (fun V' hU => f_plain rfl (s_load Try.sh3 (ev_o rfl rfl) (hU _ _ (by simp [View.set, View.drop, k4, k6, k11, k14, k15, k16, eb4b2, eb4b2', eb6b2, eb6b2', eb6b4, eb6b4', eb11b6, eb11b6', eb11b4, eb11b4', eb14b11, eb14b11', eb14b6, eb14b6', eb14b4, eb14b4', eb15b11, eb15b11', eb15b6, eb15b6', eb15b4, eb15b4', eb16b11, eb16b11', eb16b6, eb16b6', eb16b4, eb16b4', n45, n46, n56, n54, n64, n65, eb18b4, eb18b4', eb18b6, eb18b6', eb18b11, eb18b11', eb18b14, eb18b14', eb18b15, eb18b15', eb18b16, eb18b16', vb18] <;> first | exact ⟨rfl, rfl⟩ | exact rfl)) rfl)) ?_
    refine d_v (fun V' hU => f_plain rfl (s_idxa Try.ar24 (ev_o rfl rfl) (ev_o rfl rfl) (by omega) (by omega))) ?_
    refine d_v (fun V' hU => f_plain rfl (s_load Try.sh3 (ev_o rfl rfl) (hU _ _ (by simp [View.set, View.drop, k4, k6, k11, k14, k15, k16, eb4b2, eb4b2', eb6b2, eb6b2', eb6b4, eb6b4', eb11b6, eb11b6', eb11b4, eb11b4', eb14b11, eb14b11', eb14b6, eb14b6', eb14b4, eb14b4', eb15b11, eb15b11', eb15b6, eb15b6', eb15b4, eb15b4', eb16b11, eb16b11', eb16b6, eb16b6', eb16b4, eb16b4', n45, n46, n56, n54, n64, n65, eb18b4, eb18b4', eb18b6, eb18b6', eb18b11, eb18b11', eb18b14, eb18b14', eb18b15, eb18b15', eb18b16, eb18b16', vb18] <;> first | exact ⟨rfl, rfl⟩ | exact rfl)) (rd4 hk.1 (by simp)))) ?_
    refine d_v (fun V' hU => f_plain rfl (s_fieldAddr Try.f52_0 rfl (ev_o rfl rfl))) ?_
    refine d_v (fun V' hU => f_plain rfl (s_load Try.sh3 (ev_o rfl rfl) (hU _ _ (by simp [View.set, View.drop, k4, k6, k11, k14, k15, k16, eb4b2, eb4b2', eb6b2, eb6b2', eb6b4, eb6b4', eb11b6, eb11b6', eb11b4, eb11b4', eb14b11, eb14b11', eb14b6, eb14b6', eb14b4, eb14b4', eb15b11, eb15b11', eb15b6, eb15b6', eb15b4, eb15b4', eb16b11, eb16b11', eb16b6, eb16b6', eb16b4, eb16b4', n45, n46, n56, n54, n64, n65, eb18b4, eb18b4', eb18b6, eb18b6', eb18b11, eb18b11', eb18b14, eb18b14', eb18b15, eb18b15', eb18b16, eb18b16', vb18] <;> first | exact ⟨rfl, rfl⟩ | exact rfl)) rfl)) ?_
    refine d_v (fun V' hU => f_plain rfl (s_idxa Try.ar24 (ev_o rfl rfl) (ev_o rfl rfl) (by omega) (by omega))) ?_
    refine d_v (fun V' hU => f_plain rfl (s_load Try.sh3 (ev_o rfl rfl) (hU _ _ (by simp [View.set, View.drop, k4, k6, k11, k14, k15, k16, eb4b2, eb4b2', eb6b2, eb6b2', eb6b4, eb6b4', eb11b6, eb11b6', eb11b4, eb11b4', eb14b11, eb14b11', eb14b6, eb14b6', eb14b4, eb14b4', eb15b11, eb15b11', eb15b6, eb15b6', eb15b4, eb15b4', eb16b11, eb16b11', eb16b6, eb16b6', eb16b4, eb16b4', n45, n46, n56, n54, n64, n65, eb18b4, eb18b4', eb18b6, eb18b6', eb18b11, eb18b11', eb18b14, eb18b14', eb18b15, eb18b15', eb18b16, eb18b16', vb18] <;> first | exact ⟨rfl, rfl⟩ | exact rfl)) (rd4 hk.1 (by simp)))) ?_
    refine d_v (fun V' hU => f_plain rfl (s_max (ev_o rfl rfl) (ev_o rfl rfl))) ?_
    refine d_v (fun V' hU => f_plain rfl (s_idxa Try.ar24 (ev_o rfl rfl) (ev_o rfl rfl) (by omega) (by omega))) ?_
    first | refine d_b (s_storew Try.sh3 (ev_o rfl rfl) (ev_o rfl rfl) (by simp [View.set, View.drop, k4, k6, k11, k14, k15, k16, eb4b2, eb4b2', eb6b2, eb6b2', eb6b4, eb6b4', eb11b6, eb11b6', eb11b4, eb11b4', eb14b11, eb14b11', eb14b6, eb14b6', eb14b4, eb14b4', eb15b11, eb15b11', eb15b6, eb15b6', eb15b4, eb15b4', eb16b11, eb16b11', eb16b6, eb16b6', eb16b4, eb16b4', n45, n46, n56, n54, n64, n65, eb18b4, eb18b4', eb18b6, eb18b6', eb18b11, eb18b11', eb18b14, eb18b14', eb18b15, eb18b15', eb18b16, eb18b16', vb18] <;> first | exact ⟨rfl, rfl⟩ | exact rfl) rfl rfl (by simp [ints, four]; omega) ((wr4 hk.1 (by simp)).trans (congrArg (fun f => ints (four f)) (peak_step hi')))) rfl _ (View.le_refl _) ?_ | refine d_e (s_storew Try.sh3 (ev_o rfl rfl) (ev_o rfl rfl) (by simp [View.set, View.drop, k4, k6, k11, k14, k15, k16, eb4b2, eb4b2', eb6b2, eb6b2', eb6b4, eb6b4', eb11b6, eb11b6', eb11b4, eb11b4', eb14b11, eb14b11', eb14b6, eb14b6', eb14b4, eb14b4', eb15b11, eb15b11', eb15b6, eb15b6', eb15b4, eb15b4', eb16b11, eb16b11', eb16b6, eb16b6', eb16b4, eb16b4', n45, n46, n56, n54, n64, n65, eb18b4, eb18b4', eb18b6, eb18b6', eb18b11, eb18b11', eb18b14, eb18b14', eb18b15, eb18b15', eb18b16, eb18b16', vb18] <;> first | exact ⟨rfl, rfl⟩ | exact rfl) rfl rfl (by simp [ints, four]; omega) ((wr4 hk.1 (by simp)).trans (congrArg (fun f => ints (four f)) (peak_step hi')))) (by first | exact View.le_refl _ | assumption) ?_
    refine d_nil ?_
    refine a_seq (a_draw [false, false, false, false, false, false, false, false, true] (_) Try.mixed rfl rfl (View.le_refl _) ?_)
    refine d_v (fun V' hU => f_plain rfl (s_fieldAddr Try.f52_0 rfl (ev_o rfl rfl))) ?_
    refine d_v (fun V' hU => f_plain rfl (s_load Try.sh3 (ev_o rfl rfl) (hU _ _ (by simp [View.set, View.drop, k4, k6, k11, k14, k15, k16, eb4b2, eb4b2', eb6b2, eb6b2', eb6b4, eb6b4', eb11b6, eb11b6', eb11b4, eb11b4', eb14b11, eb14b11', eb14b6, eb14b6', eb14b4, eb14b4', eb15b11, eb15b11', eb15b6, eb15b6', eb15b4, eb15b4', eb16b11, eb16b11', eb16b6, eb16b6', eb16b4, eb16b4', n45, n46, n56, n54, n64, n65, eb18b4, eb18b4', eb18b6, eb18b6', eb18b11, eb18b11', eb18b14, eb18b14', eb18b15, eb18b15', eb18b16, eb18b16', vb18] <;> first | exact ⟨rfl, rfl⟩ | exact rfl)) rfl)) ?_
    refine d_v (fun V' hU => f_plain rfl (s_idxa Try.ar24 (ev_o rfl rfl) (ev_o rfl rfl) (by omega) (by omega))) ?_
    refine d_v (fun V' hU => f_plain rfl (s_load Try.sh3 (ev_o rfl rfl) (hU _ _ (by simp [View.set, View.drop, k4, k6, k11, k14, k15, k16, eb4b2, eb4b2', eb6b2, eb6b2', eb6b4, eb6b4', eb11b6, eb11b6', eb11b4, eb11b4', eb14b11, eb14b11', eb14b6, eb14b6', eb14b4, eb14b4', eb15b11, eb15b11', eb15b6, eb15b6', eb15b4, eb15b4', eb16b11, eb16b11', eb16b6, eb16b6', eb16b4, eb16b4', n45, n46, n56, n54, n64, n65, eb18b4, eb18b4', eb18b6, eb18b6', eb18b11, eb18b11', eb18b14, eb18b14', eb18b15, eb18b15', eb18b16, eb18b16', vb18] <;> first | exact ⟨rfl, rfl⟩ | exact rfl)) (rd4 hk.1 (by simp)))) ?_
    refine d_v (fun V' hU => f_plain rfl (s_fieldAddr Try.f52_1 rfl (ev_o rfl rfl))) ?_
    refine d_v (fun V' hU => f_plain rfl (s_load Try.sh3 (ev_o rfl rfl) (hU _ _ (by simp [View.set, View.drop, k4, k6, k11, k14, k15, k16, eb4b2, eb4b2', eb6b2, eb6b2', eb6b4, eb6b4', eb11b6, eb11b6', eb11b4, eb11b4', eb14b11, eb14b11', eb14b6, eb14b6', eb14b4, eb14b4', eb15b11, eb15b11', eb15b6, eb15b6', eb15b4, eb15b4', eb16b11, eb16b11', eb16b6, eb16b6', eb16b4, eb16b4', n45, n46, n56, n54, n64, n65, eb18b4, eb18b4', eb18b6, eb18b6', eb18b11, eb18b11', eb18b14, eb18b14', eb18b15, eb18b15', eb18b16, eb18b16', vb18] <;> first | exact ⟨rfl, rfl⟩ | exact rfl)) rfl)) ?_
    refine d_v (fun V' hU => f_plain rfl (s_add (ev_o rfl rfl) (ev_o rfl rfl) (by omega) (by omega))) ?_
    refine d_v (fun V' hU => f_plain rfl (s_idxa Try.ar24 (ev_o rfl rfl) (ev_o rfl rfl) (by omega) (by omega))) ?_
    first | refine d_b (s_storew Try.sh3 (ev_o rfl rfl) (ev_o rfl rfl) (by simp [View.set, View.drop, k4, k6, k11, k14, k15, k16, eb4b2, eb4b2', eb6b2, eb6b2', eb6b4, eb6b4', eb11b6, eb11b6', eb11b4, eb11b4', eb14b11, eb14b11', eb14b6, eb14b6', eb14b4, eb14b4', eb15b11, eb15b11', eb15b6, eb15b6', eb15b4, eb15b4', eb16b11, eb16b11', eb16b6, eb16b6', eb16b4, eb16b4', n45, n46, n56, n54, n64, n65, eb18b4, eb18b4', eb18b6, eb18b6', eb18b11, eb18b11', eb18b14, eb18b14', eb18b15, eb18b15', eb18b16, eb18b16', vb18] <;> first | exact ⟨rfl, rfl⟩ | exact rfl) rfl rfl (by simp [ints, four]; omega) ((wr4 hk.1 (by simp)).trans (congrArg (fun f => ints (four f)) (run_succ hi').symm))) rfl _ (View.le_refl _) ?_ | refine d_e (s_storew Try.sh3 (ev_o rfl rfl) (ev_o rfl rfl) (by simp [View.set, View.drop, k4, k6, k11, k14, k15, k16, eb4b2, eb4b2', eb6b2, eb6b2', eb6b4, eb6b4', eb11b6, eb11b6', eb11b4, eb11b4', eb14b11, eb14b11', eb14b6, eb14b6', eb14b4, eb14b4', eb15b11, eb15b11', eb15b6, eb15b6', eb15b4, eb15b4', eb16b11, eb16b11', eb16b6, eb16b6', eb16b4, eb16b4', n45, n46, n56, n54, n64, n65, eb18b4, eb18b4', eb18b6, eb18b6', eb18b11, eb18b11', eb18b14, eb18b14', eb18b15, eb18b15', eb18b16, eb18b16', vb18] <;> first | exact ⟨rfl, rfl⟩ | exact rfl) rfl rfl (by simp [ints, four]; omega) ((wr4 hk.1 (by simp)).trans (congrArg (fun f => ints (four f)) (run_succ hi').symm))) (by first | exact View.le_refl _ | assumption) ?_
    refine d_nil ?_
    refine a_gen fun V₃ hV₃ => ?_
    have m4 : V₃ b4 = some (.row (ints (four zf))) := by rw [hV₃]; simp [View.set, k4, k6, k11, k14, k15, k16, eb4b2, eb4b2', eb6b2, eb6b2', eb6b4, eb6b4', eb11b6, eb11b6', eb11b4, eb11b4', eb14b11, eb14b11', eb14b6, eb14b6', eb14b4, eb14b4', eb15b11, eb15b11', eb15b6, eb15b6', eb15b4, eb15b4', eb16b11, eb16b11', eb16b6, eb16b6', eb16b4, eb16b4', n45, n46, n56, n54, n64, n65, eb18b4, eb18b4', eb18b6, eb18b6', eb18b11, eb18b11', eb18b14, eb18b14', eb18b15, eb18b15', eb18b16, eb18b16', vb18]
    have m6 : V₃ b6 = some (.row (bk nn (third nn))) := by rw [hV₃]; simp [View.set, k4, k6, k11, k14, k15, k16, eb4b2, eb4b2', eb6b2, eb6b2', eb6b4, eb6b4', eb11b6, eb11b6', eb11b4, eb11b4', eb14b11, eb14b11', eb14b6, eb14b6', eb14b4, eb14b4', eb15b11, eb15b11', eb15b6, eb15b6', eb15b4, eb15b4', eb16b11, eb16b11', eb16b6, eb16b6', eb16b4, eb16b4', n45, n46, n56, n54, n64, n65, eb18b4, eb18b4', eb18b6, eb18b6', eb18b11, eb18b11', eb18b14, eb18b14', eb18b15, eb18b15', eb18b16, eb18b16', vb18]
    have m11 : V₃ b11 = some (.row (bk nn S)) := by rw [hV₃]; simp [View.set, k4, k6, k11, k14, k15, k16, eb4b2, eb4b2', eb6b2, eb6b2', eb6b4, eb6b4', eb11b6, eb11b6', eb11b4, eb11b4', eb14b11, eb14b11', eb14b6, eb14b6', eb14b4, eb14b4', eb15b11, eb15b11', eb15b6, eb15b6', eb15b4, eb15b4', eb16b11, eb16b11', eb16b6, eb16b6', eb16b4, eb16b4', n45, n46, n56, n54, n64, n65, eb18b4, eb18b4', eb18b6, eb18b6', eb18b11, eb18b11', eb18b14, eb18b14', eb18b15, eb18b15', eb18b16, eb18b16', vb18]
    have m14 : V₃ b14 = some (.row (ints (four (peakF (third nn) cs (i + 1))))) := by rw [hV₃]; simp [View.set, k4, k6, k11, k14, k15, k16, eb4b2, eb4b2', eb6b2, eb6b2', eb6b4, eb6b4', eb11b6, eb11b6', eb11b4, eb11b4', eb14b11, eb14b11', eb14b6, eb14b6', eb14b4, eb14b4', eb15b11, eb15b11', eb15b6, eb15b6', eb15b4, eb15b4', eb16b11, eb16b11', eb16b6, eb16b6', eb16b4, eb16b4', n45, n46, n56, n54, n64, n65, eb18b4, eb18b4', eb18b6, eb18b6', eb18b11, eb18b11', eb18b14, eb18b14', eb18b15, eb18b15', eb18b16, eb18b16', vb18]
    have m15 : V₃ b15 = some (.row (ints (four (run (third nn) cs (i + 1))))) := by rw [hV₃]; simp [View.set, k4, k6, k11, k14, k15, k16, eb4b2, eb4b2', eb6b2, eb6b2', eb6b4, eb6b4', eb11b6, eb11b6', eb11b4, eb11b4', eb14b11, eb14b11', eb14b6, eb14b6', eb14b4, eb14b4', eb15b11, eb15b11', eb15b6, eb15b6', eb15b4, eb15b4', eb16b11, eb16b11', eb16b6, eb16b6', eb16b4, eb16b4', n45, n46, n56, n54, n64, n65, eb18b4, eb18b4', eb18b6, eb18b6', eb18b11, eb18b11', eb18b14, eb18b14', eb18b15, eb18b15', eb18b16, eb18b16', vb18]
    have m16 : V₃ b16 = some (.row (ints (four (run zf cs (i + 1))))) := by rw [hV₃]; simp [View.set, k4, k6, k11, k14, k15, k16, eb4b2, eb4b2', eb6b2, eb6b2', eb6b4, eb6b4', eb11b6, eb11b6', eb11b4, eb11b4', eb14b11, eb14b11', eb14b6, eb14b6', eb14b4, eb14b4', eb15b11, eb15b11', eb15b6, eb15b6', eb15b4, eb15b4', eb16b11, eb16b11', eb16b6, eb16b6', eb16b4, eb16b4', n45, n46, n56, n54, n64, n65, eb18b4, eb18b4', eb18b6, eb18b6', eb18b11, eb18b11', eb18b14, eb18b14', eb18b15, eb18b15', eb18b16, eb18b16', vb18]
    have m18 : V₃ b18 = some (.row [iv (cs[i]).1, iv (cs[i]).2]) := by rw [hV₃]; simp [View.set, k4, k6, k11, k14, k15, k16, eb4b2, eb4b2', eb6b2, eb6b2', eb6b4, eb6b4', eb11b6, eb11b6', eb11b4, eb11b4', eb14b11, eb14b11', eb14b6, eb14b6', eb14b4, eb14b4', eb15b11, eb15b11', eb15b6, eb15b6', eb15b4, eb15b4', eb16b11, eb16b11', eb16b6, eb16b6', eb16b4, eb16b4', n45, n46, n56, n54, n64, n65, eb18b4, eb18b4', eb18b6, eb18b6', eb18b11, eb18b11', eb18b14, eb18b14', eb18b15, eb18b15', eb18b16, eb18b16', vb18] <;> rfl
    have ml : View.le V V₃ := by
      rw [hV₃]
      repeat refine View.le_set ?_ ?_
      all_goals first | assumption | exact View.le_none kl (by assumption)
    clear hV₃ k4 k6 k11 k14 k15 k16
    refine a_seq (a_seq (a_region ?_))
    refine a_v rfl (s_move (ev_t rfl)) ?_
    refine a_v rfl (s_cmp (ev_t rfl) ev_c rfl) ?_
    refine a_nil ?_
    refine a_cond (ev_t rfl) (fun hd => a_exit ?_) (fun hd => a_skip ?_)
    · have hd0 : due ≠ 0 := by simpa using hd
      rcases hD with ⟨h0, _⟩ | ⟨_, hD⟩
      · exact absurd h0 hd0
      repeat first | refine thenA_x ?_ | refine blockA_hit ?_ | refine blockA_x (by decide) ?_
      refine a_region ?_
      refine a_v rfl (s_add (ev_t rfl) ev_c (by omega) (by omega)) ?_
      refine a_v rfl (s_move (ev_t rfl)) ?_
      refine a_nil ?_
      exact ⟨cs.length - (i + 1), by omega, i + 1, _, S, at_, due, rfl, by omega, rfl, ⟨rfl, rfl, rfl, rfl, rfl, rfl, rfl, rfl, rfl, rfl, rfl, rfl, trivial⟩, m4, m6, m11, m14, m15, m16, ml, .inr ⟨hd0, hD⟩⟩
    have hd0 : due = 0 := by simpa using hd
    rcases hD with ⟨_, hat, hS, hgood, hF⟩ | ⟨h0, _⟩
    rotate_left
    · exact absurd hd0 h0
    subst hS hat hd0
    rw [show cs.length - i = (cs.length - (i + 1)) + 1 by omega, firstF, run_succ hi', failsF_upd hgood hk.1] at hF
    have hgc := hgood _ hk.1
    refine a_seq (a_draw [false, false, false, false, false, false, false, false, false] (_) Try.mixed rfl rfl (View.le_refl _) ?_)
    refine d_v (fun V' hU => f_plain rfl (s_fieldAddr Try.f52_0 rfl (ev_o rfl rfl))) ?_
    refine d_v (fun V' hU => f_plain rfl (s_load Try.sh3 (ev_o rfl rfl) (hU _ _ (by simp [View.set, View.drop, m4, m6, m11, m14, m15, m16, m18, eb4b2, eb4b2', eb6b2, eb6b2', eb6b4, eb6b4', eb11b6, eb11b6', eb11b4, eb11b4', eb14b11, eb14b11', eb14b6, eb14b6', eb14b4, eb14b4', eb15b11, eb15b11', eb15b6, eb15b6', eb15b4, eb15b4', eb16b11, eb16b11', eb16b6, eb16b6', eb16b4, eb16b4', n45, n46, n56, n54, n64, n65, eb18b4, eb18b4', eb18b6, eb18b6', eb18b11, eb18b11', eb18b14, eb18b14', eb18b15, eb18b15', eb18b16, eb18b16'] <;> first | exact ⟨rfl, rfl⟩ | exact rfl)) rfl)) ?_
    refine d_v (fun V' hU => f_plain rfl (s_fieldAddr Try.f49_1 rfl (ev_o rfl rfl))) ?_
    refine d_v (fun V' hU => f_plain rfl (s_idxa Try.ar24 (ev_o rfl rfl) (ev_o rfl rfl) (by omega) (by omega))) ?_
    refine d_v (fun V' hU => f_plain rfl (s_load Try.sh3 (ev_o rfl rfl) (hU _ _ (by simp [View.set, View.drop, m4, m6, m11, m14, m15, m16, m18, eb4b2, eb4b2', eb6b2, eb6b2', eb6b4, eb6b4', eb11b6, eb11b6', eb11b4, eb11b4', eb14b11, eb14b11', eb14b6, eb14b6', eb14b4, eb14b4', eb15b11, eb15b11', eb15b6, eb15b6', eb15b4, eb15b4', eb16b11, eb16b11', eb16b6, eb16b6', eb16b4, eb16b4', n45, n46, n56, n54, n64, n65, eb18b4, eb18b4', eb18b6, eb18b6', eb18b11, eb18b11', eb18b14, eb18b14', eb18b15, eb18b15', eb18b16, eb18b16'] <;> first | exact ⟨rfl, rfl⟩ | exact rfl)) (bkU hk.1 (by simp)))) ?_
    refine d_v (fun V' hU => f_plain rfl (s_fieldAddr Try.f52_1 rfl (ev_o rfl rfl))) ?_
    refine d_v (fun V' hU => f_plain rfl (s_load Try.sh3 (ev_o rfl rfl) (hU _ _ (by simp [View.set, View.drop, m4, m6, m11, m14, m15, m16, m18, eb4b2, eb4b2', eb6b2, eb6b2', eb6b4, eb6b4', eb11b6, eb11b6', eb11b4, eb11b4', eb14b11, eb14b11', eb14b6, eb14b6', eb14b4, eb14b4', eb15b11, eb15b11', eb15b6, eb15b6', eb15b4, eb15b4', eb16b11, eb16b11', eb16b6, eb16b6', eb16b4, eb16b4', n45, n46, n56, n54, n64, n65, eb18b4, eb18b4', eb18b6, eb18b6', eb18b11, eb18b11', eb18b14, eb18b14', eb18b15, eb18b15', eb18b16, eb18b16'] <;> first | exact ⟨rfl, rfl⟩ | exact rfl)) rfl)) ?_
    refine d_v (fun V' hU => f_plain rfl (s_add (ev_o rfl rfl) (ev_o rfl rfl) (by omega) (by omega))) ?_
    refine d_v (fun V' hU => f_plain rfl (s_assign (ev_o rfl rfl))) ?_
    refine d_nil ?_
    refine a_cut (fun st V₄ => ∃ (l : List (Nat × AVal)) (at_ due : Int), st = ⟨l, 431⟩ ∧ SubT [(19, iv (run (third nn) cs i (cs[i]).1 + (cs[i]).2)), (18, pt b18 0), (99, iv i), (98, iv (chs cs).length), (13, iv due), (12, iv at_), (97, .tree 2 (chs cs)), (16, pt b16 0), (15, pt b15 0), (14, pt b14 0), (11, pt b11 0), (7, .tree 2 (chs cs)), (6, pt b6 0), (4, pt b4 0)] l ∧ V₄ = V₃ ∧
      ((due = 0 ∧ at_ = -1 ∧ run (third nn) cs i (cs[i]).1 + (cs[i]).2 ≤ nn (cs[i]).1 ∧ 0 ≤ run (third nn) cs i (cs[i]).1 + (cs[i]).2 ∧ firstF nn (third nn) cs 0 cs.length = firstF nn (third nn) cs (i + 1) (cs.length - (i + 1))) ∨
        (due ≠ 0 ∧ firstF nn (third nn) cs 0 cs.length = (at_, due)))) ?_ ?_
    · refine a_block ?_
      refine a_seq (a_region ?_)
      refine a_v rfl (s_move (ev_t rfl)) ?_
      refine a_v rfl (s_fieldAddr Try.f52_0 rfl (ev_t rfl)) ?_
      refine a_v rfl (s_load Try.sh3 (ev_t rfl) (by simp [View.set, View.drop, m4, m6, m11, m14, m15, m16, m18, eb4b2, eb4b2', eb6b2, eb6b2', eb6b4, eb6b4', eb11b6, eb11b6', eb11b4, eb11b4', eb14b11, eb14b11', eb14b6, eb14b6', eb14b4, eb14b4', eb15b11, eb15b11', eb15b6, eb15b6', eb15b4, eb15b4', eb16b11, eb16b11', eb16b6, eb16b6', eb16b4, eb16b4', n45, n46, n56, n54, n64, n65, eb18b4, eb18b4', eb18b6, eb18b6', eb18b11, eb18b11', eb18b14, eb18b14', eb18b15, eb18b15', eb18b16, eb18b16'] <;> first | exact ⟨rfl, rfl⟩ | exact rfl) rfl) ?_
      refine a_v rfl (s_fieldAddr Try.f49_0 rfl (ev_t rfl)) ?_
      refine a_v rfl (s_idxa Try.ar24 (ev_t rfl) (ev_t rfl) (by omega) (by omega)) ?_
      refine a_v rfl (s_load Try.sh3 (ev_t rfl) (by simp [View.set, View.drop, m4, m6, m11, m14, m15, m16, m18, eb4b2, eb4b2', eb6b2, eb6b2', eb6b4, eb6b4', eb11b6, eb11b6', eb11b4, eb11b4', eb14b11, eb14b11', eb14b6, eb14b6', eb14b4, eb14b4', eb15b11, eb15b11', eb15b6, eb15b6', eb15b4, eb15b4', eb16b11, eb16b11', eb16b6, eb16b6', eb16b4, eb16b4', n45, n46, n56, n54, n64, n65, eb18b4, eb18b4', eb18b6, eb18b6', eb18b11, eb18b11', eb18b14, eb18b14', eb18b15, eb18b15', eb18b16, eb18b16'] <;> first | exact ⟨rfl, rfl⟩ | exact rfl) (bkL hk.1 (by simp))) ?_
      refine a_v rfl (s_cmp (ev_t rfl) (ev_t rfl) rfl) ?_
      refine a_v rfl (s_assign (ev_t rfl)) ?_
      refine a_nil ?_
      refine a_cond (ev_t rfl) (fun h1 => ?_) (fun h1 => ?_)
      · have g1 : run (third nn) cs i (cs[i]).1 + (cs[i]).2 > nn (cs[i]).1 := by simpa using h1
        refine a_region ?_
        refine a_v rfl (s_move (ev_t rfl)) ?_
        refine a_v rfl (s_assign (ev_t rfl)) ?_
        refine a_v rfl (s_assign ev_c) ?_
        refine a_nil ?_
        exact ⟨_, i, 252, rfl, ⟨rfl, rfl, rfl, rfl, rfl, rfl, rfl, rfl, rfl, rfl, rfl, rfl, rfl, rfl, trivial⟩, rfl, .inr ⟨by omega, by rw [hF, if_pos g1]; simp⟩⟩
      have g1 : ¬ run (third nn) cs i (cs[i]).1 + (cs[i]).2 > nn (cs[i]).1 := by simpa using h1
      refine a_seq (a_region ?_)
      refine a_v rfl (s_move (ev_t rfl)) ?_
      refine a_v rfl (s_cmp (ev_t rfl) ev_c rfl) ?_
      refine a_v rfl (s_assign (ev_t rfl)) ?_
      refine a_nil ?_
      refine a_cond (ev_t rfl) (fun h2 => ?_) (fun h2 => a_skip ?_)
      · have g2 : run (third nn) cs i (cs[i]).1 + (cs[i]).2 < 0 := by simpa using h2
        refine a_region ?_
        refine a_v rfl (s_move (ev_t rfl)) ?_
        refine a_v rfl (s_assign (ev_t rfl)) ?_
        refine a_v rfl (s_assign ev_c) ?_
        refine a_nil ?_
        exact ⟨_, i, 253, rfl, ⟨rfl, rfl, rfl, rfl, rfl, rfl, rfl, rfl, rfl, rfl, rfl, rfl, rfl, rfl, trivial⟩, rfl, .inr ⟨by omega, by rw [hF, if_neg g1, if_pos g2]; simp⟩⟩
      have g2 : ¬ run (third nn) cs i (cs[i]).1 + (cs[i]).2 < 0 := by simpa using h2
      exact ⟨_, -1, 0, rfl, ⟨rfl, rfl, rfl, rfl, rfl, rfl, rfl, rfl, rfl, rfl, rfl, rfl, rfl, rfl, trivial⟩, rfl, .inl ⟨rfl, rfl, by omega, by omega, by rw [hF, if_neg g1, if_neg g2]; simp⟩⟩
    rintro st V₄ ⟨l, at_, due, rfl, hs', hV₄, hD⟩
    subst hV₄
    refine a_forget hs' ?_
    refine a_region ?_
    refine a_v rfl (s_fieldAddr Try.f52_0 rfl (ev_t rfl)) ?_
    refine a_v rfl (s_load Try.sh3 (ev_t rfl) (by simp [View.set, View.drop, m4, m6, m11, m14, m15, m16, m18, eb4b2, eb4b2', eb6b2, eb6b2', eb6b4, eb6b4', eb11b6, eb11b6', eb11b4, eb11b4', eb14b11, eb14b11', eb14b6, eb14b6', eb14b4, eb14b4', eb15b11, eb15b11', eb15b6, eb15b6', eb15b4, eb15b4', eb16b11, eb16b11', eb16b6, eb16b6', eb16b4, eb16b4', n45, n46, n56, n54, n64, n65, eb18b4, eb18b4', eb18b6, eb18b6', eb18b11, eb18b11', eb18b14, eb18b14', eb18b15, eb18b15', eb18b16, eb18b16'] <;> first | exact ⟨rfl, rfl⟩ | exact rfl) rfl) ?_
    refine a_v rfl (s_move (ev_t rfl)) ?_
    refine a_v rfl (s_fieldAddr Try.f49_1 rfl (ev_t rfl)) ?_
    refine a_v rfl (s_idxa Try.ar24 (ev_t rfl) (ev_t rfl) (by omega) (by omega)) ?_
    refine a_s (s_storew Try.sh3 (ev_t rfl) (ev_t rfl) (by simp [View.set, View.drop, m4, m6, m11, m14, m15, m16, m18, eb4b2, eb4b2', eb6b2, eb6b2', eb6b4, eb6b4', eb11b6, eb11b6', eb11b4, eb11b4', eb14b11, eb14b11', eb14b6, eb14b6', eb14b4, eb14b4', eb15b11, eb15b11', eb15b6, eb15b6', eb15b4, eb15b4', eb16b11, eb16b11', eb16b6, eb16b6', eb16b4, eb16b4', n45, n46, n56, n54, n64, n65, eb18b4, eb18b4', eb18b6, eb18b6', eb18b11, eb18b11', eb18b14, eb18b14', eb18b15, eb18b15', eb18b16, eb18b16'] <;> first | exact ⟨rfl, rfl⟩ | exact rfl) rfl rfl (by simp [ints, four]; omega) ((bkwU hk.1 (by simp)).trans (congrArg (fun f => bk nn f) (run_succ hi').symm))) ?_
    refine a_nil ?_
    refine a_region ?_
    refine a_v rfl (s_add (ev_t rfl) ev_c (by omega) (by omega)) ?_
    refine a_v rfl (s_move (ev_t rfl)) ?_
    refine a_nil ?_
    have hgs : due = 0 → goodW nn (run (third nn) cs (i + 1)) := by
      intro h0
      rcases hD with ⟨_, _, g1, g2, _⟩ | ⟨h, _⟩
      · rw [run_succ hi']; exact goodW_upd hgood g2 g1
      · exact absurd h0 h
    exact ⟨cs.length - (i + 1), by omega, i + 1, _, run (third nn) cs (i + 1), at_, due, rfl, by omega, rfl, ⟨rfl, rfl, rfl, rfl, rfl, rfl, rfl, rfl, rfl, rfl, rfl, rfl, trivial⟩, by simp [View.set, m4, m6, m11, m14, m15, m16, m18, eb4b2, eb4b2', eb6b2, eb6b2', eb6b4, eb6b4', eb11b6, eb11b6', eb11b4, eb11b4', eb14b11, eb14b11', eb14b6, eb14b6', eb14b4, eb14b4', eb15b11, eb15b11', eb15b6, eb15b6', eb15b4, eb15b4', eb16b11, eb16b11', eb16b6, eb16b6', eb16b4, eb16b4', n45, n46, n56, n54, n64, n65, eb18b4, eb18b4', eb18b6, eb18b6', eb18b11, eb18b11', eb18b14, eb18b14', eb18b15, eb18b15', eb18b16, eb18b16'], by simp [View.set, m4, m6, m11, m14, m15, m16, m18, eb4b2, eb4b2', eb6b2, eb6b2', eb6b4, eb6b4', eb11b6, eb11b6', eb11b4, eb11b4', eb14b11, eb14b11', eb14b6, eb14b6', eb14b4, eb14b4', eb15b11, eb15b11', eb15b6, eb15b6', eb15b4, eb15b4', eb16b11, eb16b11', eb16b6, eb16b6', eb16b4, eb16b4', n45, n46, n56, n54, n64, n65, eb18b4, eb18b4', eb18b6, eb18b6', eb18b11, eb18b11', eb18b14, eb18b14', eb18b15, eb18b15', eb18b16, eb18b16'], View.set_same _ _ _, by simp [View.set, m4, m6, m11, m14, m15, m16, m18, eb4b2, eb4b2', eb6b2, eb6b2', eb6b4, eb6b4', eb11b6, eb11b6', eb11b4, eb11b4', eb14b11, eb14b11', eb14b6, eb14b6', eb14b4, eb14b4', eb15b11, eb15b11', eb15b6, eb15b6', eb15b4, eb15b4', eb16b11, eb16b11', eb16b6, eb16b6', eb16b4, eb16b4', n45, n46, n56, n54, n64, n65, eb18b4, eb18b4', eb18b6, eb18b6', eb18b11, eb18b11', eb18b14, eb18b14', eb18b15, eb18b15', eb18b16, eb18b16'], by simp [View.set, m4, m6, m11, m14, m15, m16, m18, eb4b2, eb4b2', eb6b2, eb6b2', eb6b4, eb6b4', eb11b6, eb11b6', eb11b4, eb11b4', eb14b11, eb14b11', eb14b6, eb14b6', eb14b4, eb14b4', eb15b11, eb15b11', eb15b6, eb15b6', eb15b4, eb15b4', eb16b11, eb16b11', eb16b6, eb16b6', eb16b4, eb16b4', n45, n46, n56, n54, n64, n65, eb18b4, eb18b4', eb18b6, eb18b6', eb18b11, eb18b11', eb18b14, eb18b14', eb18b15, eb18b15', eb18b16, eb18b16'], by simp [View.set, m4, m6, m11, m14, m15, m16, m18, eb4b2, eb4b2', eb6b2, eb6b2', eb6b4, eb6b4', eb11b6, eb11b6', eb11b4, eb11b4', eb14b11, eb14b11', eb14b6, eb14b6', eb14b4, eb14b4', eb15b11, eb15b11', eb15b6, eb15b6', eb15b4, eb15b4', eb16b11, eb16b11', eb16b6, eb16b6', eb16b4, eb16b4', n45, n46, n56, n54, n64, n65, eb18b4, eb18b4', eb18b6, eb18b6', eb18b11, eb18b11', eb18b14, eb18b14', eb18b15, eb18b15', eb18b16, eb18b16'],
      View.le_set ml (by assumption), hD.imp (fun ⟨h0, h1, _, _, h2⟩ => ⟨h0, h1, rfl, hgs h0, h2⟩) id⟩
  repeat first | refine thenA_x ?_ | refine blockA_hit ?_ | refine blockA_x (by decide) ?_
  have hi4 : i = cs.length := by simp [chs_len] at hc; omega
  subst hi4
  refine a_seq (a_seq (a_region ?_))
  refine a_v rfl (s_move (ev_t rfl)) ?_
  refine a_v rfl (s_cmp (ev_t rfl) ev_c rfl) ?_
  refine a_nil ?_
  refine a_cut1 (fun st V₄ => ∃ (l : List (Nat × AVal)) (A' S' : Nat → Int), st = ⟨l, 431⟩ ∧ SubT [(13, iv due), (12, iv at_), (16, pt b16 0), (14, pt b14 0), (11, pt b11 0), (7, .tree 2 (chs cs)), (6, pt b6 0), (4, pt b4 0)] l ∧ V₄ b4 = some (.row (ints (four zf))) ∧ V₄ b6 = some (.row (bk nn (third nn))) ∧ V₄ b11 = some (.row (bk A' S')) ∧
    V₄ b14 = some (.row (ints (four (peakF (third nn) cs cs.length)))) ∧ V₄ b16 = some (.row (ints (four (run zf cs cs.length)))) ∧ View.le V V₄ ∧ stepsF nn (third nn) cs = [.agg (bk A' S'), iv at_, iv due] ∧ S' = usedF nn (third nn) cs ∧ 
    (due = 0 → A' = nn ∧ S' = run (third nn) cs cs.length ∧ (firstF nn (third nn) cs 0 cs.length).2 = 0)) ?_ ?_
  · refine a_cond (ev_t rfl) (fun hd => ?_) (fun hd => a_skip ?_)
    · have hd0 : due ≠ 0 := by simpa using hd
      rcases hD with ⟨h0, _⟩ | ⟨_, hD⟩
      · exact absurd h0 hd0
      refine a_region ?_
      refine a_v rfl (s_build Try.z49 Try.pl49 .nil rfl) ?_
      refine a_s (s_storew Try.sh49 (ev_t rfl) (ev_t rfl) (by simp [View.set, View.drop, k4, k6, k11, k14, k15, k16, eb4b2, eb4b2', eb6b2, eb6b2', eb6b4, eb6b4', eb11b6, eb11b6', eb11b4, eb11b4', eb14b11, eb14b11', eb14b6, eb14b6', eb14b4, eb14b4', eb15b11, eb15b11', eb15b6, eb15b6', eb15b4, eb15b4', eb16b11, eb16b11', eb16b6, eb16b6', eb16b4, eb16b4', n45, n46, n56, n54, n64, n65] <;> first | exact ⟨rfl, rfl⟩ | exact rfl) rfl rfl (by first | decide | (simp [ints, four]; done) | (simp [ints, four]; omega)) (wrBA (L' := zf) (U' := zf))) ?_
      refine a_nil ?_
      exact ⟨_, zf, zf, rfl, ⟨rfl, rfl, rfl, rfl, rfl, rfl, rfl, rfl, trivial⟩, by simp [View.set, k4, k6, k11, k14, k15, k16, eb4b2, eb4b2', eb6b2, eb6b2', eb6b4, eb6b4', eb11b6, eb11b6', eb11b4, eb11b4', eb14b11, eb14b11', eb14b6, eb14b6', eb14b4, eb14b4', eb15b11, eb15b11', eb15b6, eb15b6', eb15b4, eb15b4', eb16b11, eb16b11', eb16b6, eb16b6', eb16b4, eb16b4', n45, n46, n56, n54, n64, n65], by simp [View.set, k4, k6, k11, k14, k15, k16, eb4b2, eb4b2', eb6b2, eb6b2', eb6b4, eb6b4', eb11b6, eb11b6', eb11b4, eb11b4', eb14b11, eb14b11', eb14b6, eb14b6', eb14b4, eb14b4', eb15b11, eb15b11', eb15b6, eb15b6', eb15b4, eb15b4', eb16b11, eb16b11', eb16b6, eb16b6', eb16b4, eb16b4', n45, n46, n56, n54, n64, n65], View.set_same _ _ _, by simp [View.set, k4, k6, k11, k14, k15, k16, eb4b2, eb4b2', eb6b2, eb6b2', eb6b4, eb6b4', eb11b6, eb11b6', eb11b4, eb11b4', eb14b11, eb14b11', eb14b6, eb14b6', eb14b4, eb14b4', eb15b11, eb15b11', eb15b6, eb15b6', eb15b4, eb15b4', eb16b11, eb16b11', eb16b6, eb16b6', eb16b4, eb16b4', n45, n46, n56, n54, n64, n65], by simp [View.set, k4, k6, k11, k14, k15, k16, eb4b2, eb4b2', eb6b2, eb6b2', eb6b4, eb6b4', eb11b6, eb11b6', eb11b4, eb11b4', eb14b11, eb14b11', eb14b6, eb14b6', eb14b4, eb14b4', eb15b11, eb15b11', eb15b6, eb15b6', eb15b4, eb15b4', eb16b11, eb16b11', eb16b6, eb16b6', eb16b4, eb16b4', n45, n46, n56, n54, n64, n65], View.le_set kl (by assumption), by rw [stepsF, hD, if_pos hd0], by rw [usedF, hD, if_pos hd0], fun h => absurd h hd0⟩
    · have hd0 : due = 0 := by simpa using hd
      rcases hD with ⟨_, hat, hS, hgood, hF⟩ | ⟨h0, _⟩
      rotate_left
      · exact absurd hd0 h0
      subst hat hS hd0
      rw [Nat.sub_self, firstF] at hF
      exact ⟨_, nn, run (third nn) cs cs.length, rfl, ⟨rfl, rfl, rfl, rfl, rfl, rfl, rfl, rfl, trivial⟩, k4, k6, k11, k14, k16, kl, by rw [stepsF, hF, if_neg (by simp)], by rw [usedF, hF, if_neg (by simp)], fun _ => ⟨rfl, rfl, by rw [hF]⟩⟩
  clear k4 k6 k11 k14 k15 k16 kl hD
  rintro st V₄ ⟨l, A', S', rfl, hs', k4, k6, k11, k14, k16, kl, hst, hus, hdue⟩
  refine a_forget hs' ?_
  refine a_seq (a_region ?_)
  refine a_v rfl (s_load Try.sh49 (ev_t rfl) (by simp [View.set, View.drop, k4, k6, k11, k14, k16, eb4b2, eb4b2', eb6b2, eb6b2', eb6b4, eb6b4', eb11b6, eb11b6', eb11b4, eb11b4', eb14b11, eb14b11', eb14b6, eb14b6', eb14b4, eb14b4', eb15b11, eb15b11', eb15b6, eb15b6', eb15b4, eb15b4', eb16b11, eb16b11', eb16b6, eb16b6', eb16b4, eb16b4', n45, n46, n56, n54, n64, n65] <;> first | exact ⟨rfl, rfl⟩ | exact rfl) bkA) ?_
  refine a_vp rfl (s_alloc Try.z49) fun x V' hx => ?_
  obtain ⟨b20, nb20, rfl, rfl⟩ := hx
  have eb20b4 : ¬ b20 = b4 := by rintro rfl; simp [View.set, k4, k6, k11, k14, k16, eb4b2, eb4b2', eb6b2, eb6b2', eb6b4, eb6b4', eb11b6, eb11b6', eb11b4, eb11b4', eb14b11, eb14b11', eb14b6, eb14b6', eb14b4, eb14b4', eb15b11, eb15b11', eb15b6, eb15b6', eb15b4, eb15b4', eb16b11, eb16b11', eb16b6, eb16b6', eb16b4, eb16b4', n45, n46, n56, n54, n64, n65] at nb20
  have eb20b4' : ¬ b4 = b20 := fun h => eb20b4 h.symm
  have eb20b6 : ¬ b20 = b6 := by rintro rfl; simp [View.set, k4, k6, k11, k14, k16, eb4b2, eb4b2', eb6b2, eb6b2', eb6b4, eb6b4', eb11b6, eb11b6', eb11b4, eb11b4', eb14b11, eb14b11', eb14b6, eb14b6', eb14b4, eb14b4', eb15b11, eb15b11', eb15b6, eb15b6', eb15b4, eb15b4', eb16b11, eb16b11', eb16b6, eb16b6', eb16b4, eb16b4', n45, n46, n56, n54, n64, n65, eb20b4, eb20b4'] at nb20
  have eb20b6' : ¬ b6 = b20 := fun h => eb20b6 h.symm
  have eb20b11 : ¬ b20 = b11 := by rintro rfl; simp [View.set, k4, k6, k11, k14, k16, eb4b2, eb4b2', eb6b2, eb6b2', eb6b4, eb6b4', eb11b6, eb11b6', eb11b4, eb11b4', eb14b11, eb14b11', eb14b6, eb14b6', eb14b4, eb14b4', eb15b11, eb15b11', eb15b6, eb15b6', eb15b4, eb15b4', eb16b11, eb16b11', eb16b6, eb16b6', eb16b4, eb16b4', n45, n46, n56, n54, n64, n65, eb20b4, eb20b4', eb20b6, eb20b6'] at nb20
  have eb20b11' : ¬ b11 = b20 := fun h => eb20b11 h.symm
  have eb20b14 : ¬ b20 = b14 := by rintro rfl; simp [View.set, k4, k6, k11, k14, k16, eb4b2, eb4b2', eb6b2, eb6b2', eb6b4, eb6b4', eb11b6, eb11b6', eb11b4, eb11b4', eb14b11, eb14b11', eb14b6, eb14b6', eb14b4, eb14b4', eb15b11, eb15b11', eb15b6, eb15b6', eb15b4, eb15b4', eb16b11, eb16b11', eb16b6, eb16b6', eb16b4, eb16b4', n45, n46, n56, n54, n64, n65, eb20b4, eb20b4', eb20b6, eb20b6', eb20b11, eb20b11'] at nb20
  have eb20b14' : ¬ b14 = b20 := fun h => eb20b14 h.symm
  have eb20b16 : ¬ b20 = b16 := by rintro rfl; simp [View.set, k4, k6, k11, k14, k16, eb4b2, eb4b2', eb6b2, eb6b2', eb6b4, eb6b4', eb11b6, eb11b6', eb11b4, eb11b4', eb14b11, eb14b11', eb14b6, eb14b6', eb14b4, eb14b4', eb15b11, eb15b11', eb15b6, eb15b6', eb15b4, eb15b4', eb16b11, eb16b11', eb16b6, eb16b6', eb16b4, eb16b4', n45, n46, n56, n54, n64, n65, eb20b4, eb20b4', eb20b6, eb20b6', eb20b11, eb20b11', eb20b14, eb20b14'] at nb20
  have eb20b16' : ¬ b16 = b20 := fun h => eb20b16 h.symm
  have vb20 : V₄ b20 = none := by simpa [View.set, k4, k6, k11, k14, k16, eb4b2, eb4b2', eb6b2, eb6b2', eb6b4, eb6b4', eb11b6, eb11b6', eb11b4, eb11b4', eb14b11, eb14b11', eb14b6, eb14b6', eb14b4, eb14b4', eb15b11, eb15b11', eb15b6, eb15b6', eb15b4, eb15b4', eb16b11, eb16b11', eb16b6, eb16b6', eb16b4, eb16b4', n45, n46, n56, n54, n64, n65, eb20b4, eb20b4', eb20b6, eb20b6', eb20b11, eb20b11', eb20b14, eb20b14', eb20b16, eb20b16'] using nb20
  refine a_s (s_storew Try.sh49 (ev_t rfl) (ev_t rfl) (by simp [View.set, View.drop, k4, k6, k11, k14, k16, eb4b2, eb4b2', eb6b2, eb6b2', eb6b4, eb6b4', eb11b6, eb11b6', eb11b4, eb11b4', eb14b11, eb14b11', eb14b6, eb14b6', eb14b4, eb14b4', eb15b11, eb15b11', eb15b6, eb15b6', eb15b4, eb15b4', eb16b11, eb16b11', eb16b6, eb16b6', eb16b4, eb16b4', n45, n46, n56, n54, n64, n65, eb20b4, eb20b4', eb20b6, eb20b6', eb20b11, eb20b11', eb20b14, eb20b14', eb20b16, eb20b16', vb20] <;> first | exact ⟨rfl, rfl⟩ | exact rfl) rfl rfl (by first | decide | (simp [ints, four]; done) | (simp [ints, four]; omega)) (wrBA (L := zf) (U := zf))) ?_
  refine a_v rfl (s_assign ev_c) ?_
  refine a_v rfl (s_assign ev_c) ?_
  refine a_nil ?_
  refine a_seq (a_seq (a_region ?_))
  refine a_v rfl (s_assign ev_c) ?_
  refine a_nil ?_
  generalize hW : run (third nn) cs cs.length = W at *
  have hadd : ∀ k, third nn k + run zf cs cs.length k = W k := fun k => by rw [← hW]; exact run_add _ _ _ _
  refine a_block ?_
  refine a_loop (fun n st V₅ => ∃ (i : Nat) (l : List (Nat × AVal)) (kind over : Int), n = 4 - i ∧ i ≤ 4 ∧ st = ⟨l, 431⟩ ∧ SubT [(23, iv i), (22, iv over), (21, iv kind), (20, pt b20 0), (13, iv due), (12, iv at_), (16, pt b16 0), (14, pt b14 0), (11, pt b11 0), (7, .tree 2 (chs cs)), (6, pt b6 0), (4, pt b4 0)] l ∧
    V₅ b4 = some (.row (ints (four zf))) ∧ V₅ b6 = some (.row (bk nn (third nn))) ∧ V₅ b11 = some (.row (bk A' S')) ∧ V₅ b14 = some (.row (ints (four (peakF (third nn) cs cs.length)))) ∧
    V₅ b16 = some (.row (ints (four (run zf cs cs.length)))) ∧ V₅ b20 = some (.row (bk nn (mix (third nn) W i))) ∧ View.le V V₅ ∧
    ((over = 0 ∧ kind = -1 ∧ failsF nn W 0 4 = failsF nn W i (4 - i)) ∨ (over ≠ 0 ∧ failsF nn W 0 4 = (kind, over)))) ?_ 4 _ _
    ⟨0, _, -1, 0, rfl, by omega, rfl, ⟨rfl, rfl, rfl, rfl, rfl, rfl, rfl, rfl, rfl, rfl, rfl, rfl, trivial⟩, by simp [View.set, k4, k6, k11, k14, k16, eb4b2, eb4b2', eb6b2, eb6b2', eb6b4, eb6b4', eb11b6, eb11b6', eb11b4, eb11b4', eb14b11, eb14b11', eb14b6, eb14b6', eb14b4, eb14b4', eb15b11, eb15b11', eb15b6, eb15b6', eb15b4, eb15b4', eb16b11, eb16b11', eb16b6, eb16b6', eb16b4, eb16b4', n45, n46, n56, n54, n64, n65, eb20b4, eb20b4', eb20b6, eb20b6', eb20b11, eb20b11', eb20b14, eb20b14', eb20b16, eb20b16', vb20], by simp [View.set, k4, k6, k11, k14, k16, eb4b2, eb4b2', eb6b2, eb6b2', eb6b4, eb6b4', eb11b6, eb11b6', eb11b4, eb11b4', eb14b11, eb14b11', eb14b6, eb14b6', eb14b4, eb14b4', eb15b11, eb15b11', eb15b6, eb15b6', eb15b4, eb15b4', eb16b11, eb16b11', eb16b6, eb16b6', eb16b4, eb16b4', n45, n46, n56, n54, n64, n65, eb20b4, eb20b4', eb20b6, eb20b6', eb20b11, eb20b11', eb20b14, eb20b14', eb20b16, eb20b16', vb20], by simp [View.set, k4, k6, k11, k14, k16, eb4b2, eb4b2', eb6b2, eb6b2', eb6b4, eb6b4', eb11b6, eb11b6', eb11b4, eb11b4', eb14b11, eb14b11', eb14b6, eb14b6', eb14b4, eb14b4', eb15b11, eb15b11', eb15b6, eb15b6', eb15b4, eb15b4', eb16b11, eb16b11', eb16b6, eb16b6', eb16b4, eb16b4', n45, n46, n56, n54, n64, n65, eb20b4, eb20b4', eb20b6, eb20b6', eb20b11, eb20b11', eb20b14, eb20b14', eb20b16, eb20b16', vb20], by simp [View.set, k4, k6, k11, k14, k16, eb4b2, eb4b2', eb6b2, eb6b2', eb6b4, eb6b4', eb11b6, eb11b6', eb11b4, eb11b4', eb14b11, eb14b11', eb14b6, eb14b6', eb14b4, eb14b4', eb15b11, eb15b11', eb15b6, eb15b6', eb15b4, eb15b4', eb16b11, eb16b11', eb16b6, eb16b6', eb16b4, eb16b4', n45, n46, n56, n54, n64, n65, eb20b4, eb20b4', eb20b6, eb20b6', eb20b11, eb20b11', eb20b14, eb20b14', eb20b16, eb20b16', vb20], by simp [View.set, k4, k6, k11, k14, k16, eb4b2, eb4b2', eb6b2, eb6b2', eb6b4, eb6b4', eb11b6, eb11b6', eb11b4, eb11b4', eb14b11, eb14b11', eb14b6, eb14b6', eb14b4, eb14b4', eb15b11, eb15b11', eb15b6, eb15b6', eb15b4, eb15b4', eb16b11, eb16b11', eb16b6, eb16b6', eb16b4, eb16b4', n45, n46, n56, n54, n64, n65, eb20b4, eb20b4', eb20b6, eb20b6', eb20b11, eb20b11', eb20b14, eb20b14', eb20b16, eb20b16', vb20], View.set_same _ _ _, View.le_set (View.le_set kl (View.le_none kl vb20)) (View.le_none kl vb20), .inl ⟨rfl, rfl, rfl⟩⟩
  have wb20 := View.le_none kl vb20
  clear k4 k6 k11 k14 k16 kl nb20 vb20
  rintro n st V₅ ⟨i, l, kind, over, rfl, hi, rfl, hs, k4, k6, k11, k14, k16, k20, kl, hD⟩
  refine a_forget hs ?_
  refine a_seq (a_seq (a_region ?_))
  refine a_v rfl (s_move (ev_t rfl)) ?_
  refine a_v rfl (s_cmp (ev_t rfl) ev_c rfl) ?_
  refine a_nil ?_
  refine a_cond (ev_t rfl) (fun hc => a_skip ?_) (fun hc => a_exit ?_)
  · have hi4 : i < 4 := by simp at hc; omega
    have hmi : mix (third nn) W i i = third nn i := by simp [mix]
    have hmi' : mix (third nn) W (i + 1) i = W i := by simp [mix]
    have hni := hn i
    have hs1 := hsm i
    have hs2 := run_small small_zf hcs cs.length (Nat.le_refl _) i
    have ha := hadd i
    have hst1 : failsF nn W i (4 - i) = if badK nn W i ≠ 0 then ((i : Int), badK nn W i) else failsF nn W (i + 1) (4 - (i + 1)) := by
      rw [show 4 - i = (4 - (i + 1)) + 1 by omega, failsF]
    refine a_cut (fun st V₆ => ∃ (l : List (Nat × AVal)) (kind over : Int), st = ⟨l, 431⟩ ∧ SubT [(23, iv i), (22, iv over), (21, iv kind), (20, pt b20 0), (13, iv due), (12, iv at_), (16, pt b16 0), (14, pt b14 0), (11, pt b11 0), (7, .tree 2 (chs cs)), (6, pt b6 0), (4, pt b4 0)] l ∧
      V₆ b4 = some (.row (ints (four zf))) ∧ V₆ b6 = some (.row (bk nn (third nn))) ∧ V₆ b11 = some (.row (bk A' S')) ∧ V₆ b14 = some (.row (ints (four (peakF (third nn) cs cs.length)))) ∧
      V₆ b16 = some (.row (ints (four (run zf cs cs.length)))) ∧ V₆ b20 = some (.row (bk nn (mix (third nn) W (i + 1)))) ∧ View.le V V₆ ∧
      ((over = 0 ∧ kind = -1 ∧ failsF nn W 0 4 = failsF nn W (i + 1) (4 - (i + 1))) ∨ (over ≠ 0 ∧ failsF nn W 0 4 = (kind, over)))) ?_ ?_
    rotate_left
    · rintro st V₆ ⟨l, kind, over, rfl, hs', m4, m6, m11, m14, m16, m20, ml, hD'⟩
      refine a_forget hs' ?_
      refine a_region ?_
      refine a_v rfl (s_move (ev_t rfl)) ?_
      refine a_v rfl (s_add (ev_t rfl) ev_c (by omega) (by omega)) ?_
      refine a_v rfl (s_assign (ev_t rfl)) ?_
      refine a_nil ?_
      exact ⟨4 - (i + 1), by omega, i + 1, _, kind, over, rfl, by omega, rfl, ⟨rfl, rfl, rfl, rfl, rfl, rfl, rfl, rfl, rfl, rfl, rfl, rfl, trivial⟩, m4, m6, m11, m14, m16, m20, ml, hD'⟩
    refine a_block ?_
    refine a_seq (a_draw [false, false, false, false, false, false, false, false, false, false, true] (_) Try.mixed rfl rfl (View.le_refl _) ?_)
    refine d_v (fun V' hU => f_plain rfl (s_move (ev_o rfl rfl))) ?_
    refine d_v (fun V' hU => f_plain rfl (s_fieldAddr Try.f49_1 rfl (ev_o rfl rfl))) ?_
    refine d_v (fun V' hU => f_plain rfl (s_idxa Try.ar24 (ev_o rfl rfl) (ev_o rfl rfl) (by omega) (by omega))) ?_
    refine d_v (fun V' hU => f_plain rfl (s_load Try.sh3 (ev_o rfl rfl) (hU _ _ (by simp [View.set, View.drop, k4, k6, k11, k14, k16, k20, eb4b2, eb4b2', eb6b2, eb6b2', eb6b4, eb6b4', eb11b6, eb11b6', eb11b4, eb11b4', eb14b11, eb14b11', eb14b6, eb14b6', eb14b4, eb14b4', eb15b11, eb15b11', eb15b6, eb15b6', eb15b4, eb15b4', eb16b11, eb16b11', eb16b6, eb16b6', eb16b4, eb16b4', n45, n46, n56, n54, n64, n65, eb20b4, eb20b4', eb20b6, eb20b6', eb20b11, eb20b11', eb20b14, eb20b14', eb20b16, eb20b16'] <;> first | exact ⟨rfl, rfl⟩ | exact rfl)) (bkU hi4 (by simp)))) ?_
    refine d_v (fun V' hU => f_plain rfl (s_move (ev_o rfl rfl))) ?_
    refine d_v (fun V' hU => f_plain rfl (s_idxa Try.ar24 (ev_o rfl rfl) (ev_o rfl rfl) (by omega) (by omega))) ?_
    refine d_v (fun V' hU => f_plain rfl (s_load Try.sh3 (ev_o rfl rfl) (hU _ _ (by simp [View.set, View.drop, k4, k6, k11, k14, k16, k20, eb4b2, eb4b2', eb6b2, eb6b2', eb6b4, eb6b4', eb11b6, eb11b6', eb11b4, eb11b4', eb14b11, eb14b11', eb14b6, eb14b6', eb14b4, eb14b4', eb15b11, eb15b11', eb15b6, eb15b6', eb15b4, eb15b4', eb16b11, eb16b11', eb16b6, eb16b6', eb16b4, eb16b4', n45, n46, n56, n54, n64, n65, eb20b4, eb20b4', eb20b6, eb20b6', eb20b11, eb20b11', eb20b14, eb20b14', eb20b16, eb20b16'] <;> first | exact ⟨rfl, rfl⟩ | exact rfl)) (rd4 hi4 (by simp)))) ?_
    refine d_v (fun V' hU => f_plain rfl (s_add (ev_o rfl rfl) (ev_o rfl rfl) (by omega) (by omega))) ?_
    refine d_v (fun V' hU => f_plain rfl (s_fieldAddr Try.f49_1 rfl (ev_o rfl rfl))) ?_
    refine d_v (fun V' hU => f_plain rfl (s_idxa Try.ar24 (ev_o rfl rfl) (ev_o rfl rfl) (by omega) (by omega))) ?_
    first | refine d_b (s_storew Try.sh3 (ev_o rfl rfl) (ev_o rfl rfl) (by simp [View.set, View.drop, k4, k6, k11, k14, k16, k20, eb4b2, eb4b2', eb6b2, eb6b2', eb6b4, eb6b4', eb11b6, eb11b6', eb11b4, eb11b4', eb14b11, eb14b11', eb14b6, eb14b6', eb14b4, eb14b4', eb15b11, eb15b11', eb15b6, eb15b6', eb15b4, eb15b4', eb16b11, eb16b11', eb16b6, eb16b6', eb16b4, eb16b4', n45, n46, n56, n54, n64, n65, eb20b4, eb20b4', eb20b6, eb20b6', eb20b11, eb20b11', eb20b14, eb20b14', eb20b16, eb20b16'] <;> first | exact ⟨rfl, rfl⟩ | exact rfl) rfl rfl (by simp [ints, four]; omega) ((bkwU hi4 (by simp)).trans (by rw [hmi, ha, mix_succ]))) rfl _ (View.le_refl _) ?_ | refine d_e (s_storew Try.sh3 (ev_o rfl rfl) (ev_o rfl rfl) (by simp [View.set, View.drop, k4, k6, k11, k14, k16, k20, eb4b2, eb4b2', eb6b2, eb6b2', eb6b4, eb6b4', eb11b6, eb11b6', eb11b4, eb11b4', eb14b11, eb14b11', eb14b6, eb14b6', eb14b4, eb14b4', eb15b11, eb15b11', eb15b6, eb15b6', eb15b4, eb15b4', eb16b11, eb16b11', eb16b6, eb16b6', eb16b4, eb16b4', n45, n46, n56, n54, n64, n65, eb20b4, eb20b4', eb20b6, eb20b6', eb20b11, eb20b11', eb20b14, eb20b14', eb20b16, eb20b16'] <;> first | exact ⟨rfl, rfl⟩ | exact rfl) rfl rfl (by simp [ints, four]; omega) ((bkwU hi4 (by simp)).trans (by rw [hmi, ha, mix_succ]))) (by first | exact View.le_refl _ | assumption) ?_
    refine d_nil ?_
    refine a_gen fun V₃ hV₃ => ?_
    have m4 : V₃ b4 = some (.row (ints (four zf))) := by rw [hV₃]; simp [View.set, k4, k6, k11, k14, k16, k20, eb4b2, eb4b2', eb6b2, eb6b2', eb6b4, eb6b4', eb11b6, eb11b6', eb11b4, eb11b4', eb14b11, eb14b11', eb14b6, eb14b6', eb14b4, eb14b4', eb15b11, eb15b11', eb15b6, eb15b6', eb15b4, eb15b4', eb16b11, eb16b11', eb16b6, eb16b6', eb16b4, eb16b4', n45, n46, n56, n54, n64, n65, eb20b4, eb20b4', eb20b6, eb20b6', eb20b11, eb20b11', eb20b14, eb20b14', eb20b16, eb20b16']
    have m6 : V₃ b6 = some (.row (bk nn (third nn))) := by rw [hV₃]; simp [View.set, k4, k6, k11, k14, k16, k20, eb4b2, eb4b2', eb6b2, eb6b2', eb6b4, eb6b4', eb11b6, eb11b6', eb11b4, eb11b4', eb14b11, eb14b11', eb14b6, eb14b6', eb14b4, eb14b4', eb15b11, eb15b11', eb15b6, eb15b6', eb15b4, eb15b4', eb16b11, eb16b11', eb16b6, eb16b6', eb16b4, eb16b4', n45, n46, n56, n54, n64, n65, eb20b4, eb20b4', eb20b6, eb20b6', eb20b11, eb20b11', eb20b14, eb20b14', eb20b16, eb20b16']
    have m11 : V₃ b11 = some (.row (bk A' S')) := by rw [hV₃]; simp [View.set, k4, k6, k11, k14, k16, k20, eb4b2, eb4b2', eb6b2, eb6b2', eb6b4, eb6b4', eb11b6, eb11b6', eb11b4, eb11b4', eb14b11, eb14b11', eb14b6, eb14b6', eb14b4, eb14b4', eb15b11, eb15b11', eb15b6, eb15b6', eb15b4, eb15b4', eb16b11, eb16b11', eb16b6, eb16b6', eb16b4, eb16b4', n45, n46, n56, n54, n64, n65, eb20b4, eb20b4', eb20b6, eb20b6', eb20b11, eb20b11', eb20b14, eb20b14', eb20b16, eb20b16']
    have m14 : V₃ b14 = some (.row (ints (four (peakF (third nn) cs cs.length)))) := by rw [hV₃]; simp [View.set, k4, k6, k11, k14, k16, k20, eb4b2, eb4b2', eb6b2, eb6b2', eb6b4, eb6b4', eb11b6, eb11b6', eb11b4, eb11b4', eb14b11, eb14b11', eb14b6, eb14b6', eb14b4, eb14b4', eb15b11, eb15b11', eb15b6, eb15b6', eb15b4, eb15b4', eb16b11, eb16b11', eb16b6, eb16b6', eb16b4, eb16b4', n45, n46, n56, n54, n64, n65, eb20b4, eb20b4', eb20b6, eb20b6', eb20b11, eb20b11', eb20b14, eb20b14', eb20b16, eb20b16']
    have m16 : V₃ b16 = some (.row (ints (four (run zf cs cs.length)))) := by rw [hV₃]; simp [View.set, k4, k6, k11, k14, k16, k20, eb4b2, eb4b2', eb6b2, eb6b2', eb6b4, eb6b4', eb11b6, eb11b6', eb11b4, eb11b4', eb14b11, eb14b11', eb14b6, eb14b6', eb14b4, eb14b4', eb15b11, eb15b11', eb15b6, eb15b6', eb15b4, eb15b4', eb16b11, eb16b11', eb16b6, eb16b6', eb16b4, eb16b4', n45, n46, n56, n54, n64, n65, eb20b4, eb20b4', eb20b6, eb20b6', eb20b11, eb20b11', eb20b14, eb20b14', eb20b16, eb20b16']
    have m20 : V₃ b20 = some (.row (bk nn (mix (third nn) W (i + 1)))) := by rw [hV₃]; exact View.set_same _ _ _
    have ml : View.le V V₃ := by rw [hV₃]; exact View.le_set kl wb20
    clear hV₃ k4 k6 k11 k14 k16 k20
    refine a_seq (a_draw [false, false, false, false, false, false, false, false, false, false, false, false, false] (_) Try.mixed rfl rfl (View.le_refl _) ?_)
    refine d_v (fun V' hU => f_plain rfl (s_move (ev_o rfl rfl))) ?_
    refine d_v (fun V' hU => f_plain rfl (s_cmp (ev_o rfl rfl) ev_c rfl)) ?_
    refine d_v (fun V' hU => f_plain rfl (s_move (ev_o rfl rfl))) ?_
    refine d_v (fun V' hU => f_guard rfl (gd_b rfl (ev_o rfl rfl)) fun h2 => s_move (ev_o rfl rfl)) ?_
    refine d_v (fun V' hU => f_guard rfl (gd_b rfl (ev_o rfl rfl)) fun h2 => s_fieldAddr Try.f49_1 rfl (ev_o rfl rfl)) ?_
    refine d_v (fun V' hU => f_guard rfl (gd_b rfl (ev_o rfl rfl)) fun h2 => s_idxa Try.ar24 (ev_cond (ev_o rfl rfl) h2) (ev_cond (ev_o rfl rfl) h2) (by omega) (by omega)) ?_
    refine d_v (fun V' hU => f_guard rfl (gd_b rfl (ev_o rfl rfl)) fun h2 => s_load Try.sh3 (ev_cond (ev_o rfl rfl) h2) (hU _ _ (by simp [View.set, View.drop, m4, m6, m11, m14, m16, m20, eb4b2, eb4b2', eb6b2, eb6b2', eb6b4, eb6b4', eb11b6, eb11b6', eb11b4, eb11b4', eb14b11, eb14b11', eb14b6, eb14b6', eb14b4, eb14b4', eb15b11, eb15b11', eb15b6, eb15b6', eb15b4, eb15b4', eb16b11, eb16b11', eb16b6, eb16b6', eb16b4, eb16b4', n45, n46, n56, n54, n64, n65, eb20b4, eb20b4', eb20b6, eb20b6', eb20b11, eb20b11', eb20b14, eb20b14', eb20b16, eb20b16'] <;> first | exact ⟨rfl, rfl⟩ | exact rfl)) (bkU hi4 (by simp))) ?_
    refine d_v (fun V' hU => f_guard rfl (gd_b rfl (ev_o rfl rfl)) fun h2 => s_move (ev_o rfl rfl)) ?_
    refine d_v (fun V' hU => f_guard rfl (gd_b rfl (ev_o rfl rfl)) fun h2 => s_fieldAddr Try.f49_0 rfl (ev_o rfl rfl)) ?_
    refine d_v (fun V' hU => f_guard rfl (gd_b rfl (ev_o rfl rfl)) fun h2 => s_idxa Try.ar24 (ev_cond (ev_o rfl rfl) h2) (ev_cond (ev_o rfl rfl) h2) (by omega) (by omega)) ?_
    refine d_v (fun V' hU => f_guard rfl (gd_b rfl (ev_o rfl rfl)) fun h2 => s_load Try.sh3 (ev_cond (ev_o rfl rfl) h2) (hU _ _ (by simp [View.set, View.drop, m4, m6, m11, m14, m16, m20, eb4b2, eb4b2', eb6b2, eb6b2', eb6b4, eb6b4', eb11b6, eb11b6', eb11b4, eb11b4', eb14b11, eb14b11', eb14b6, eb14b6', eb14b4, eb14b4', eb15b11, eb15b11', eb15b6, eb15b6', eb15b4, eb15b4', eb16b11, eb16b11', eb16b6, eb16b6', eb16b4, eb16b4', n45, n46, n56, n54, n64, n65, eb20b4, eb20b4', eb20b6, eb20b6', eb20b11, eb20b11', eb20b14, eb20b14', eb20b16, eb20b16'] <;> first | exact ⟨rfl, rfl⟩ | exact rfl)) (bkL hi4 (by simp))) ?_
    refine d_v (fun V' hU => f_guard rfl (gd_b rfl (ev_o rfl rfl)) fun h2 => s_cmp (ev_cond (ev_o rfl rfl) h2) (ev_cond (ev_o rfl rfl) h2) rfl) ?_
    refine d_v (fun V' hU => f_plain rfl (s_pickand (ev_o rfl rfl) (ev_o rfl rfl))) ?_
    refine d_nil ?_
    refine a_cond (ev_t rfl) (fun h1 => ?_) (fun h1 => ?_)
    · have h1' : over = 0 ∧ W i > nn i := by simpa [hmi'] using h1
      have hbad : badK nn W i = 252 := by simp [badK, h1'.2]
      refine a_region ?_
      refine a_v rfl (s_move (ev_t rfl)) ?_
      refine a_v rfl (s_assign (ev_t rfl)) ?_
      refine a_v rfl (s_assign ev_c) ?_
      refine a_nil ?_
      refine ⟨_, i, 252, rfl, ⟨rfl, rfl, rfl, rfl, rfl, rfl, rfl, rfl, rfl, rfl, rfl, rfl, trivial⟩, m4, m6, m11, m14, m16, m20, ml, .inr ⟨by omega, ?_⟩⟩
      rcases hD with ⟨_, _, hF⟩ | ⟨h0, _⟩
      · rw [hF, hst1, hbad]; rfl
      · exact absurd h1'.1 h0
    refine a_seq (a_region ?_)
    refine a_v rfl (s_move (ev_t rfl)) ?_
    refine a_v rfl (s_cmp (ev_t rfl) ev_c rfl) ?_
    refine a_v rfl (s_move (ev_t rfl)) ?_
    refine a_f rfl (f_guard rfl (gd_b rfl (ev_t rfl)) fun h2 => s_move (ev_t rfl)) ?_
    refine a_f rfl (f_guard rfl (gd_b rfl (ev_t rfl)) fun h2 => s_fieldAddr Try.f49_1 rfl (ev_t rfl)) ?_
    refine a_f rfl (f_guard rfl (gd_b rfl (ev_t rfl)) fun h2 => s_idxa Try.ar24 (ev_cond (ev_t rfl) h2) (ev_cond (ev_t rfl) h2) (by omega) (by omega)) ?_
    refine a_f rfl (f_guard rfl (gd_b rfl (ev_t rfl)) fun h2 => s_load Try.sh3 (ev_cond (ev_t rfl) h2) (by simp [View.set, View.drop, m4, m6, m11, m14, m16, m20, eb4b2, eb4b2', eb6b2, eb6b2', eb6b4, eb6b4', eb11b6, eb11b6', eb11b4, eb11b4', eb14b11, eb14b11', eb14b6, eb14b6', eb14b4, eb14b4', eb15b11, eb15b11', eb15b6, eb15b6', eb15b4, eb15b4', eb16b11, eb16b11', eb16b6, eb16b6', eb16b4, eb16b4', n45, n46, n56, n54, n64, n65, eb20b4, eb20b4', eb20b6, eb20b6', eb20b11, eb20b11', eb20b14, eb20b14', eb20b16, eb20b16'] <;> first | exact ⟨rfl, rfl⟩ | exact rfl) (bkU hi4 (by simp))) ?_
    refine a_f rfl (f_guard rfl (gd_b rfl (ev_t rfl)) fun h2 => s_cmp (ev_cond (ev_t rfl) h2) ev_c rfl) ?_
    refine a_v rfl (s_pickand (ev_t rfl) (ev_t rfl)) ?_
    refine a_nil ?_
    refine a_cond (ev_t rfl) (fun h2 => ?_) (fun h2 => a_skip ?_)
    · have h2' : over = 0 ∧ W i < 0 := by simpa [hmi'] using h2
      have hbad : badK nn W i = 253 := by
        have : ¬ W i > nn i := by omega
        simp [badK, h2'.2, this]
      refine a_region ?_
      refine a_v rfl (s_move (ev_t rfl)) ?_
      refine a_v rfl (s_assign (ev_t rfl)) ?_
      refine a_v rfl (s_assign ev_c) ?_
      refine a_nil ?_
      refine ⟨_, i, 253, rfl, ⟨rfl, rfl, rfl, rfl, rfl, rfl, rfl, rfl, rfl, rfl, rfl, rfl, trivial⟩, m4, m6, m11, m14, m16, m20, ml, .inr ⟨by omega, ?_⟩⟩
      rcases hD with ⟨_, _, hF⟩ | ⟨h0, _⟩
      · rw [hF, hst1, hbad]; rfl
      · exact absurd h2'.1 h0
    refine ⟨_, kind, over, rfl, ⟨rfl, rfl, rfl, rfl, rfl, rfl, rfl, rfl, rfl, rfl, rfl, rfl, trivial⟩, m4, m6, m11, m14, m16, m20, ml, hD.imp (fun ⟨h0, hk, hF⟩ => ⟨h0, hk, ?_⟩) id⟩
    have hbad : badK nn W i = 0 := by
      simp [h0, hmi'] at h1 h2
      simp [badK, show ¬ W i > nn i by omega, show ¬ W i < 0 by omega]
    rw [hF, hst1, hbad]; rfl
  repeat first | refine thenA_x ?_ | refine blockA_hit ?_ | refine blockA_x (by decide) ?_
  have hi4 : i = 4 := by simp at hc; omega
  subst hi4
  have hmx : bk nn (mix (third nn) W 4) = bk nn W := by rw [bk, mix4]
  rw [hmx] at k20
  refine a_seq (a_seq (a_region ?_))
  refine a_v rfl (s_move (ev_t rfl)) ?_
  refine a_v rfl (s_cmp (ev_t rfl) ev_c rfl) ?_
  refine a_nil ?_
  refine a_cut1 (fun st V₆ => ∃ (l : List (Nat × AVal)) (A₂ W₂ : Nat → Int), st = ⟨l, 431⟩ ∧ SubT [(22, iv over), (21, iv kind), (20, pt b20 0), (13, iv due), (12, iv at_), (16, pt b16 0), (14, pt b14 0), (11, pt b11 0), (7, .tree 2 (chs cs)), (6, pt b6 0), (4, pt b4 0)] l ∧
      V₆ b4 = some (.row (ints (four zf))) ∧ V₆ b6 = some (.row (bk nn (third nn))) ∧ V₆ b11 = some (.row (bk A' S')) ∧ V₆ b14 = some (.row (ints (four (peakF (third nn) cs cs.length)))) ∧
      V₆ b16 = some (.row (ints (four (run zf cs cs.length)))) ∧ V₆ b20 = some (.row (bk A₂ W₂)) ∧ View.le V V₆ ∧ barF nn W = [.agg (bk A₂ W₂), iv kind, iv over]) ?_ ?_
  · refine a_cond (ev_t rfl) (fun hd => ?_) (fun hd => a_skip ?_)
    · have hd0 : over ≠ 0 := by simpa using hd
      rcases hD with ⟨h0, _⟩ | ⟨_, hD⟩
      · exact absurd h0 hd0
      refine a_region ?_
      refine a_v rfl (s_build Try.z49 Try.pl49 .nil rfl) ?_
      refine a_s (s_storew Try.sh49 (ev_t rfl) (ev_t rfl) (by simp [View.set, View.drop, k4, k6, k11, k14, k16, k20, eb4b2, eb4b2', eb6b2, eb6b2', eb6b4, eb6b4', eb11b6, eb11b6', eb11b4, eb11b4', eb14b11, eb14b11', eb14b6, eb14b6', eb14b4, eb14b4', eb15b11, eb15b11', eb15b6, eb15b6', eb15b4, eb15b4', eb16b11, eb16b11', eb16b6, eb16b6', eb16b4, eb16b4', n45, n46, n56, n54, n64, n65, eb20b4, eb20b4', eb20b6, eb20b6', eb20b11, eb20b11', eb20b14, eb20b14', eb20b16, eb20b16'] <;> first | exact ⟨rfl, rfl⟩ | exact rfl) rfl rfl (by first | decide | (simp [ints, four]; done) | (simp [ints, four]; omega)) (wrBA (L' := zf) (U' := zf))) ?_
      refine a_nil ?_
      exact ⟨_, zf, zf, rfl, ⟨rfl, rfl, rfl, rfl, rfl, rfl, rfl, rfl, rfl, rfl, rfl, trivial⟩, by simp [View.set, k4, k6, k11, k14, k16, k20, eb4b2, eb4b2', eb6b2, eb6b2', eb6b4, eb6b4', eb11b6, eb11b6', eb11b4, eb11b4', eb14b11, eb14b11', eb14b6, eb14b6', eb14b4, eb14b4', eb15b11, eb15b11', eb15b6, eb15b6', eb15b4, eb15b4', eb16b11, eb16b11', eb16b6, eb16b6', eb16b4, eb16b4', n45, n46, n56, n54, n64, n65, eb20b4, eb20b4', eb20b6, eb20b6', eb20b11, eb20b11', eb20b14, eb20b14', eb20b16, eb20b16'], by simp [View.set, k4, k6, k11, k14, k16, k20, eb4b2, eb4b2', eb6b2, eb6b2', eb6b4, eb6b4', eb11b6, eb11b6', eb11b4, eb11b4', eb14b11, eb14b11', eb14b6, eb14b6', eb14b4, eb14b4', eb15b11, eb15b11', eb15b6, eb15b6', eb15b4, eb15b4', eb16b11, eb16b11', eb16b6, eb16b6', eb16b4, eb16b4', n45, n46, n56, n54, n64, n65, eb20b4, eb20b4', eb20b6, eb20b6', eb20b11, eb20b11', eb20b14, eb20b14', eb20b16, eb20b16'], by simp [View.set, k4, k6, k11, k14, k16, k20, eb4b2, eb4b2', eb6b2, eb6b2', eb6b4, eb6b4', eb11b6, eb11b6', eb11b4, eb11b4', eb14b11, eb14b11', eb14b6, eb14b6', eb14b4, eb14b4', eb15b11, eb15b11', eb15b6, eb15b6', eb15b4, eb15b4', eb16b11, eb16b11', eb16b6, eb16b6', eb16b4, eb16b4', n45, n46, n56, n54, n64, n65, eb20b4, eb20b4', eb20b6, eb20b6', eb20b11, eb20b11', eb20b14, eb20b14', eb20b16, eb20b16'], by simp [View.set, k4, k6, k11, k14, k16, k20, eb4b2, eb4b2', eb6b2, eb6b2', eb6b4, eb6b4', eb11b6, eb11b6', eb11b4, eb11b4', eb14b11, eb14b11', eb14b6, eb14b6', eb14b4, eb14b4', eb15b11, eb15b11', eb15b6, eb15b6', eb15b4, eb15b4', eb16b11, eb16b11', eb16b6, eb16b6', eb16b4, eb16b4', n45, n46, n56, n54, n64, n65, eb20b4, eb20b4', eb20b6, eb20b6', eb20b11, eb20b11', eb20b14, eb20b14', eb20b16, eb20b16'], by simp [View.set, k4, k6, k11, k14, k16, k20, eb4b2, eb4b2', eb6b2, eb6b2', eb6b4, eb6b4', eb11b6, eb11b6', eb11b4, eb11b4', eb14b11, eb14b11', eb14b6, eb14b6', eb14b4, eb14b4', eb15b11, eb15b11', eb15b6, eb15b6', eb15b4, eb15b4', eb16b11, eb16b11', eb16b6, eb16b6', eb16b4, eb16b4', n45, n46, n56, n54, n64, n65, eb20b4, eb20b4', eb20b6, eb20b6', eb20b11, eb20b11', eb20b14, eb20b14', eb20b16, eb20b16'], View.set_same _ _ _, View.le_set kl (by assumption), by rw [barF, hD, if_pos hd0]⟩
    · have hd0 : over = 0 := by simpa using hd
      rcases hD with ⟨_, hat, hF⟩ | ⟨h0, _⟩
      rotate_left
      · exact absurd hd0 h0
      subst hat hd0
      rw [Nat.sub_self, failsF] at hF
      exact ⟨_, nn, W, rfl, ⟨rfl, rfl, rfl, rfl, rfl, rfl, rfl, rfl, rfl, rfl, rfl, trivial⟩, k4, k6, k11, k14, k16, k20, kl, by rw [barF, hF, if_neg (by simp)]⟩
  clear k4 k6 k11 k14 k16 k20 kl hD hs hc hmx
  rintro st V₆ ⟨l, A₂, W₂, rfl, hs', k4, k6, k11, k14, k16, k20, kl, hbar⟩
  refine a_forget hs' ?_
  refine a_seq (a_region ?_)
  refine a_v rfl (s_load Try.sh49 (ev_t rfl) (by simp [View.set, View.drop, k4, k6, k11, k14, k16, k20, eb4b2, eb4b2', eb6b2, eb6b2', eb6b4, eb6b4', eb11b6, eb11b6', eb11b4, eb11b4', eb14b11, eb14b11', eb14b6, eb14b6', eb14b4, eb14b4', eb15b11, eb15b11', eb15b6, eb15b6', eb15b4, eb15b4', eb16b11, eb16b11', eb16b6, eb16b6', eb16b4, eb16b4', n45, n46, n56, n54, n64, n65, eb20b4, eb20b4', eb20b6, eb20b6', eb20b11, eb20b11', eb20b14, eb20b14', eb20b16, eb20b16'] <;> first | exact ⟨rfl, rfl⟩ | exact rfl) bkA) ?_
  refine a_v rfl (s_move (ev_t rfl)) ?_
  refine a_vp rfl (s_call Try.okF10 ev_f (.cons (ev_t rfl) (.cons (ev_t rfl) .nil)) (bk_steps hb6 hsm hcs _)) fun x V' hx => ?_
  obtain ⟨hx1, hVV⟩ := hx; rw [hst] at hx1; subst hx1; have hVV := hVV.symm; subst hVV
  refine a_v rfl (s_move (ev_t rfl)) ?_
  refine a_v rfl (s_extract (ev_t rfl) rfl) ?_
  refine a_v rfl (s_extract (ev_t rfl) rfl) ?_
  refine a_v rfl (s_extract (ev_t rfl) rfl) ?_
  refine a_vp rfl (s_alloc Try.z49) fun x V' hx => ?_
  obtain ⟨b24, nb24, rfl, rfl⟩ := hx
  have eb24b4 : ¬ b24 = b4 := by rintro rfl; simp [View.set, k4, k6, k11, k14, k16, k20, eb4b2, eb4b2', eb6b2, eb6b2', eb6b4, eb6b4', eb11b6, eb11b6', eb11b4, eb11b4', eb14b11, eb14b11', eb14b6, eb14b6', eb14b4, eb14b4', eb15b11, eb15b11', eb15b6, eb15b6', eb15b4, eb15b4', eb16b11, eb16b11', eb16b6, eb16b6', eb16b4, eb16b4', n45, n46, n56, n54, n64, n65, eb20b4, eb20b4', eb20b6, eb20b6', eb20b11, eb20b11', eb20b14, eb20b14', eb20b16, eb20b16'] at nb24
  have eb24b4' : ¬ b4 = b24 := fun h => eb24b4 h.symm
  have eb24b6 : ¬ b24 = b6 := by rintro rfl; simp [View.set, k4, k6, k11, k14, k16, k20, eb4b2, eb4b2', eb6b2, eb6b2', eb6b4, eb6b4', eb11b6, eb11b6', eb11b4, eb11b4', eb14b11, eb14b11', eb14b6, eb14b6', eb14b4, eb14b4', eb15b11, eb15b11', eb15b6, eb15b6', eb15b4, eb15b4', eb16b11, eb16b11', eb16b6, eb16b6', eb16b4, eb16b4', n45, n46, n56, n54, n64, n65, eb20b4, eb20b4', eb20b6, eb20b6', eb20b11, eb20b11', eb20b14, eb20b14', eb20b16, eb20b16', eb24b4, eb24b4'] at nb24
  have eb24b6' : ¬ b6 = b24 := fun h => eb24b6 h.symm
  have eb24b11 : ¬ b24 = b11 := by rintro rfl; simp [View.set, k4, k6, k11, k14, k16, k20, eb4b2, eb4b2', eb6b2, eb6b2', eb6b4, eb6b4', eb11b6, eb11b6', eb11b4, eb11b4', eb14b11, eb14b11', eb14b6, eb14b6', eb14b4, eb14b4', eb15b11, eb15b11', eb15b6, eb15b6', eb15b4, eb15b4', eb16b11, eb16b11', eb16b6, eb16b6', eb16b4, eb16b4', n45, n46, n56, n54, n64, n65, eb20b4, eb20b4', eb20b6, eb20b6', eb20b11, eb20b11', eb20b14, eb20b14', eb20b16, eb20b16', eb24b4, eb24b4', eb24b6, eb24b6'] at nb24
  have eb24b11' : ¬ b11 = b24 := fun h => eb24b11 h.symm
  have eb24b14 : ¬ b24 = b14 := by rintro rfl; simp [View.set, k4, k6, k11, k14, k16, k20, eb4b2, eb4b2', eb6b2, eb6b2', eb6b4, eb6b4', eb11b6, eb11b6', eb11b4, eb11b4', eb14b11, eb14b11', eb14b6, eb14b6', eb14b4, eb14b4', eb15b11, eb15b11', eb15b6, eb15b6', eb15b4, eb15b4', eb16b11, eb16b11', eb16b6, eb16b6', eb16b4, eb16b4', n45, n46, n56, n54, n64, n65, eb20b4, eb20b4', eb20b6, eb20b6', eb20b11, eb20b11', eb20b14, eb20b14', eb20b16, eb20b16', eb24b4, eb24b4', eb24b6, eb24b6', eb24b11, eb24b11'] at nb24
  have eb24b14' : ¬ b14 = b24 := fun h => eb24b14 h.symm
  have eb24b16 : ¬ b24 = b16 := by rintro rfl; simp [View.set, k4, k6, k11, k14, k16, k20, eb4b2, eb4b2', eb6b2, eb6b2', eb6b4, eb6b4', eb11b6, eb11b6', eb11b4, eb11b4', eb14b11, eb14b11', eb14b6, eb14b6', eb14b4, eb14b4', eb15b11, eb15b11', eb15b6, eb15b6', eb15b4, eb15b4', eb16b11, eb16b11', eb16b6, eb16b6', eb16b4, eb16b4', n45, n46, n56, n54, n64, n65, eb20b4, eb20b4', eb20b6, eb20b6', eb20b11, eb20b11', eb20b14, eb20b14', eb20b16, eb20b16', eb24b4, eb24b4', eb24b6, eb24b6', eb24b11, eb24b11', eb24b14, eb24b14'] at nb24
  have eb24b16' : ¬ b16 = b24 := fun h => eb24b16 h.symm
  have eb24b20 : ¬ b24 = b20 := by rintro rfl; simp [View.set, k4, k6, k11, k14, k16, k20, eb4b2, eb4b2', eb6b2, eb6b2', eb6b4, eb6b4', eb11b6, eb11b6', eb11b4, eb11b4', eb14b11, eb14b11', eb14b6, eb14b6', eb14b4, eb14b4', eb15b11, eb15b11', eb15b6, eb15b6', eb15b4, eb15b4', eb16b11, eb16b11', eb16b6, eb16b6', eb16b4, eb16b4', n45, n46, n56, n54, n64, n65, eb20b4, eb20b4', eb20b6, eb20b6', eb20b11, eb20b11', eb20b14, eb20b14', eb20b16, eb20b16', eb24b4, eb24b4', eb24b6, eb24b6', eb24b11, eb24b11', eb24b14, eb24b14', eb24b16, eb24b16'] at nb24
  have eb24b20' : ¬ b20 = b24 := fun h => eb24b20 h.symm
  have vb24 : V₆ b24 = none := by simpa [View.set, k4, k6, k11, k14, k16, k20, eb4b2, eb4b2', eb6b2, eb6b2', eb6b4, eb6b4', eb11b6, eb11b6', eb11b4, eb11b4', eb14b11, eb14b11', eb14b6, eb14b6', eb14b4, eb14b4', eb15b11, eb15b11', eb15b6, eb15b6', eb15b4, eb15b4', eb16b11, eb16b11', eb16b6, eb16b6', eb16b4, eb16b4', n45, n46, n56, n54, n64, n65, eb20b4, eb20b4', eb20b6, eb20b6', eb20b11, eb20b11', eb20b14, eb20b14', eb20b16, eb20b16', eb24b4, eb24b4', eb24b6, eb24b6', eb24b11, eb24b11', eb24b14, eb24b14', eb24b16, eb24b16', eb24b20, eb24b20'] using nb24
  refine a_s (s_storew Try.sh49 (ev_t rfl) (ev_t rfl) (by simp [View.set, View.drop, k4, k6, k11, k14, k16, k20, eb4b2, eb4b2', eb6b2, eb6b2', eb6b4, eb6b4', eb11b6, eb11b6', eb11b4, eb11b4', eb14b11, eb14b11', eb14b6, eb14b6', eb14b4, eb14b4', eb15b11, eb15b11', eb15b6, eb15b6', eb15b4, eb15b4', eb16b11, eb16b11', eb16b6, eb16b6', eb16b4, eb16b4', n45, n46, n56, n54, n64, n65, eb20b4, eb20b4', eb20b6, eb20b6', eb20b11, eb20b11', eb20b14, eb20b14', eb20b16, eb20b16', eb24b4, eb24b4', eb24b6, eb24b6', eb24b11, eb24b11', eb24b14, eb24b14', eb24b16, eb24b16', eb24b20, eb24b20', vb24] <;> first | exact ⟨rfl, rfl⟩ | exact rfl) rfl rfl (by first | decide | (simp [ints, four]; done) | (simp [ints, four]; omega)) (wrBA (L := zf) (U := zf))) ?_
  refine a_v rfl (s_assign (ev_t rfl)) ?_
  refine a_v rfl (s_assign (ev_t rfl)) ?_
  refine a_nil ?_
  refine a_seq (a_region ?_)
  refine a_v rfl (s_load Try.sh49 (ev_t rfl) (by simp [View.set, View.drop, k4, k6, k11, k14, k16, k20, eb4b2, eb4b2', eb6b2, eb6b2', eb6b4, eb6b4', eb11b6, eb11b6', eb11b4, eb11b4', eb14b11, eb14b11', eb14b6, eb14b6', eb14b4, eb14b4', eb15b11, eb15b11', eb15b6, eb15b6', eb15b4, eb15b4', eb16b11, eb16b11', eb16b6, eb16b6', eb16b4, eb16b4', n45, n46, n56, n54, n64, n65, eb20b4, eb20b4', eb20b6, eb20b6', eb20b11, eb20b11', eb20b14, eb20b14', eb20b16, eb20b16', eb24b4, eb24b4', eb24b6, eb24b6', eb24b11, eb24b11', eb24b14, eb24b14', eb24b16, eb24b16', eb24b20, eb24b20', vb24] <;> first | exact ⟨rfl, rfl⟩ | exact rfl) bkA) ?_
  refine a_v rfl (s_move (ev_t rfl)) ?_
  refine a_vp rfl (s_call Try.okF11 ev_f (.cons (ev_t rfl) (.cons (ev_t rfl) .nil)) (bk_barrier hb6 hsm hcs _)) fun x V' hx => ?_
  obtain ⟨hx1, hVV⟩ := hx; rw [hW, hbar] at hx1; subst hx1; have hVV := hVV.symm; subst hVV
  refine a_v rfl (s_move (ev_t rfl)) ?_
  refine a_v rfl (s_extract (ev_t rfl) rfl) ?_
  refine a_v rfl (s_extract (ev_t rfl) rfl) ?_
  refine a_v rfl (s_extract (ev_t rfl) rfl) ?_
  refine a_vp rfl (s_alloc Try.z49) fun x V' hx => ?_
  obtain ⟨b27, nb27, rfl, rfl⟩ := hx
  have eb27b4 : ¬ b27 = b4 := by rintro rfl; simp [View.set, k4, k6, k11, k14, k16, k20, eb4b2, eb4b2', eb6b2, eb6b2', eb6b4, eb6b4', eb11b6, eb11b6', eb11b4, eb11b4', eb14b11, eb14b11', eb14b6, eb14b6', eb14b4, eb14b4', eb15b11, eb15b11', eb15b6, eb15b6', eb15b4, eb15b4', eb16b11, eb16b11', eb16b6, eb16b6', eb16b4, eb16b4', n45, n46, n56, n54, n64, n65, eb20b4, eb20b4', eb20b6, eb20b6', eb20b11, eb20b11', eb20b14, eb20b14', eb20b16, eb20b16', eb24b4, eb24b4', eb24b6, eb24b6', eb24b11, eb24b11', eb24b14, eb24b14', eb24b16, eb24b16', eb24b20, eb24b20', vb24] at nb27
  have eb27b4' : ¬ b4 = b27 := fun h => eb27b4 h.symm
  have eb27b6 : ¬ b27 = b6 := by rintro rfl; simp [View.set, k4, k6, k11, k14, k16, k20, eb4b2, eb4b2', eb6b2, eb6b2', eb6b4, eb6b4', eb11b6, eb11b6', eb11b4, eb11b4', eb14b11, eb14b11', eb14b6, eb14b6', eb14b4, eb14b4', eb15b11, eb15b11', eb15b6, eb15b6', eb15b4, eb15b4', eb16b11, eb16b11', eb16b6, eb16b6', eb16b4, eb16b4', n45, n46, n56, n54, n64, n65, eb20b4, eb20b4', eb20b6, eb20b6', eb20b11, eb20b11', eb20b14, eb20b14', eb20b16, eb20b16', eb24b4, eb24b4', eb24b6, eb24b6', eb24b11, eb24b11', eb24b14, eb24b14', eb24b16, eb24b16', eb24b20, eb24b20', vb24, eb27b4, eb27b4'] at nb27
  have eb27b6' : ¬ b6 = b27 := fun h => eb27b6 h.symm
  have eb27b11 : ¬ b27 = b11 := by rintro rfl; simp [View.set, k4, k6, k11, k14, k16, k20, eb4b2, eb4b2', eb6b2, eb6b2', eb6b4, eb6b4', eb11b6, eb11b6', eb11b4, eb11b4', eb14b11, eb14b11', eb14b6, eb14b6', eb14b4, eb14b4', eb15b11, eb15b11', eb15b6, eb15b6', eb15b4, eb15b4', eb16b11, eb16b11', eb16b6, eb16b6', eb16b4, eb16b4', n45, n46, n56, n54, n64, n65, eb20b4, eb20b4', eb20b6, eb20b6', eb20b11, eb20b11', eb20b14, eb20b14', eb20b16, eb20b16', eb24b4, eb24b4', eb24b6, eb24b6', eb24b11, eb24b11', eb24b14, eb24b14', eb24b16, eb24b16', eb24b20, eb24b20', vb24, eb27b4, eb27b4', eb27b6, eb27b6'] at nb27
  have eb27b11' : ¬ b11 = b27 := fun h => eb27b11 h.symm
  have eb27b14 : ¬ b27 = b14 := by rintro rfl; simp [View.set, k4, k6, k11, k14, k16, k20, eb4b2, eb4b2', eb6b2, eb6b2', eb6b4, eb6b4', eb11b6, eb11b6', eb11b4, eb11b4', eb14b11, eb14b11', eb14b6, eb14b6', eb14b4, eb14b4', eb15b11, eb15b11', eb15b6, eb15b6', eb15b4, eb15b4', eb16b11, eb16b11', eb16b6, eb16b6', eb16b4, eb16b4', n45, n46, n56, n54, n64, n65, eb20b4, eb20b4', eb20b6, eb20b6', eb20b11, eb20b11', eb20b14, eb20b14', eb20b16, eb20b16', eb24b4, eb24b4', eb24b6, eb24b6', eb24b11, eb24b11', eb24b14, eb24b14', eb24b16, eb24b16', eb24b20, eb24b20', vb24, eb27b4, eb27b4', eb27b6, eb27b6', eb27b11, eb27b11'] at nb27
  have eb27b14' : ¬ b14 = b27 := fun h => eb27b14 h.symm
  have eb27b16 : ¬ b27 = b16 := by rintro rfl; simp [View.set, k4, k6, k11, k14, k16, k20, eb4b2, eb4b2', eb6b2, eb6b2', eb6b4, eb6b4', eb11b6, eb11b6', eb11b4, eb11b4', eb14b11, eb14b11', eb14b6, eb14b6', eb14b4, eb14b4', eb15b11, eb15b11', eb15b6, eb15b6', eb15b4, eb15b4', eb16b11, eb16b11', eb16b6, eb16b6', eb16b4, eb16b4', n45, n46, n56, n54, n64, n65, eb20b4, eb20b4', eb20b6, eb20b6', eb20b11, eb20b11', eb20b14, eb20b14', eb20b16, eb20b16', eb24b4, eb24b4', eb24b6, eb24b6', eb24b11, eb24b11', eb24b14, eb24b14', eb24b16, eb24b16', eb24b20, eb24b20', vb24, eb27b4, eb27b4', eb27b6, eb27b6', eb27b11, eb27b11', eb27b14, eb27b14'] at nb27
  have eb27b16' : ¬ b16 = b27 := fun h => eb27b16 h.symm
  have eb27b20 : ¬ b27 = b20 := by rintro rfl; simp [View.set, k4, k6, k11, k14, k16, k20, eb4b2, eb4b2', eb6b2, eb6b2', eb6b4, eb6b4', eb11b6, eb11b6', eb11b4, eb11b4', eb14b11, eb14b11', eb14b6, eb14b6', eb14b4, eb14b4', eb15b11, eb15b11', eb15b6, eb15b6', eb15b4, eb15b4', eb16b11, eb16b11', eb16b6, eb16b6', eb16b4, eb16b4', n45, n46, n56, n54, n64, n65, eb20b4, eb20b4', eb20b6, eb20b6', eb20b11, eb20b11', eb20b14, eb20b14', eb20b16, eb20b16', eb24b4, eb24b4', eb24b6, eb24b6', eb24b11, eb24b11', eb24b14, eb24b14', eb24b16, eb24b16', eb24b20, eb24b20', vb24, eb27b4, eb27b4', eb27b6, eb27b6', eb27b11, eb27b11', eb27b14, eb27b14', eb27b16, eb27b16'] at nb27
  have eb27b20' : ¬ b20 = b27 := fun h => eb27b20 h.symm
  have eb27b24 : ¬ b27 = b24 := by rintro rfl; simp [View.set, k4, k6, k11, k14, k16, k20, eb4b2, eb4b2', eb6b2, eb6b2', eb6b4, eb6b4', eb11b6, eb11b6', eb11b4, eb11b4', eb14b11, eb14b11', eb14b6, eb14b6', eb14b4, eb14b4', eb15b11, eb15b11', eb15b6, eb15b6', eb15b4, eb15b4', eb16b11, eb16b11', eb16b6, eb16b6', eb16b4, eb16b4', n45, n46, n56, n54, n64, n65, eb20b4, eb20b4', eb20b6, eb20b6', eb20b11, eb20b11', eb20b14, eb20b14', eb20b16, eb20b16', eb24b4, eb24b4', eb24b6, eb24b6', eb24b11, eb24b11', eb24b14, eb24b14', eb24b16, eb24b16', eb24b20, eb24b20', vb24, eb27b4, eb27b4', eb27b6, eb27b6', eb27b11, eb27b11', eb27b14, eb27b14', eb27b16, eb27b16', eb27b20, eb27b20'] at nb27
  have eb27b24' : ¬ b24 = b27 := fun h => eb27b24 h.symm
  have vb27 : V₆ b27 = none := by simpa [View.set, k4, k6, k11, k14, k16, k20, eb4b2, eb4b2', eb6b2, eb6b2', eb6b4, eb6b4', eb11b6, eb11b6', eb11b4, eb11b4', eb14b11, eb14b11', eb14b6, eb14b6', eb14b4, eb14b4', eb15b11, eb15b11', eb15b6, eb15b6', eb15b4, eb15b4', eb16b11, eb16b11', eb16b6, eb16b6', eb16b4, eb16b4', n45, n46, n56, n54, n64, n65, eb20b4, eb20b4', eb20b6, eb20b6', eb20b11, eb20b11', eb20b14, eb20b14', eb20b16, eb20b16', eb24b4, eb24b4', eb24b6, eb24b6', eb24b11, eb24b11', eb24b14, eb24b14', eb24b16, eb24b16', eb24b20, eb24b20', vb24, eb27b4, eb27b4', eb27b6, eb27b6', eb27b11, eb27b11', eb27b14, eb27b14', eb27b16, eb27b16', eb27b20, eb27b20', eb27b24, eb27b24'] using nb27
  refine a_s (s_storew Try.sh49 (ev_t rfl) (ev_t rfl) (by simp [View.set, View.drop, k4, k6, k11, k14, k16, k20, eb4b2, eb4b2', eb6b2, eb6b2', eb6b4, eb6b4', eb11b6, eb11b6', eb11b4, eb11b4', eb14b11, eb14b11', eb14b6, eb14b6', eb14b4, eb14b4', eb15b11, eb15b11', eb15b6, eb15b6', eb15b4, eb15b4', eb16b11, eb16b11', eb16b6, eb16b6', eb16b4, eb16b4', n45, n46, n56, n54, n64, n65, eb20b4, eb20b4', eb20b6, eb20b6', eb20b11, eb20b11', eb20b14, eb20b14', eb20b16, eb20b16', eb24b4, eb24b4', eb24b6, eb24b6', eb24b11, eb24b11', eb24b14, eb24b14', eb24b16, eb24b16', eb24b20, eb24b20', vb24, eb27b4, eb27b4', eb27b6, eb27b6', eb27b11, eb27b11', eb27b14, eb27b14', eb27b16, eb27b16', eb27b20, eb27b20', eb27b24, eb27b24', vb27] <;> first | exact ⟨rfl, rfl⟩ | exact rfl) rfl rfl (by first | decide | (simp [ints, four]; done) | (simp [ints, four]; omega)) (wrBA (L := zf) (U := zf))) ?_
  refine a_v rfl (s_assign (ev_t rfl)) ?_
  refine a_v rfl (s_assign (ev_t rfl)) ?_
  refine a_nil ?_
  refine a_seq (a_region ?_)
  refine a_v rfl (s_load Try.sh49 (ev_t rfl) (by simp [View.set, View.drop, k4, k6, k11, k14, k16, k20, eb4b2, eb4b2', eb6b2, eb6b2', eb6b4, eb6b4', eb11b6, eb11b6', eb11b4, eb11b4', eb14b11, eb14b11', eb14b6, eb14b6', eb14b4, eb14b4', eb15b11, eb15b11', eb15b6, eb15b6', eb15b4, eb15b4', eb16b11, eb16b11', eb16b6, eb16b6', eb16b4, eb16b4', n45, n46, n56, n54, n64, n65, eb20b4, eb20b4', eb20b6, eb20b6', eb20b11, eb20b11', eb20b14, eb20b14', eb20b16, eb20b16', eb24b4, eb24b4', eb24b6, eb24b6', eb24b11, eb24b11', eb24b14, eb24b14', eb24b16, eb24b16', eb24b20, eb24b20', vb24, eb27b4, eb27b4', eb27b6, eb27b6', eb27b11, eb27b11', eb27b14, eb27b14', eb27b16, eb27b16', eb27b20, eb27b20', eb27b24, eb27b24', vb27] <;> first | exact ⟨rfl, rfl⟩ | exact rfl) bkA) ?_
  refine a_v rfl (s_move (ev_t rfl)) ?_
  refine a_vp rfl (s_call Try.okF12 ev_f (.cons (ev_t rfl) (.cons (ev_t rfl) .nil)) (bk_peak hb6 hsm hcs _)) fun x V' hx => ?_
  obtain ⟨hx1, hVV⟩ := hx; subst hx1; have hVV := hVV.symm; subst hVV
  refine a_v rfl (s_move (ev_t rfl)) ?_
  refine a_v rfl (s_extract (ev_t rfl) rfl) ?_
  refine a_v rfl (s_extract (ev_t rfl) rfl) ?_
  refine a_vp rfl (s_alloc Try.z24) fun x V' hx => ?_
  obtain ⟨b30, nb30, rfl, rfl⟩ := hx
  have eb30b4 : ¬ b30 = b4 := by rintro rfl; simp [View.set, k4, k6, k11, k14, k16, k20, eb4b2, eb4b2', eb6b2, eb6b2', eb6b4, eb6b4', eb11b6, eb11b6', eb11b4, eb11b4', eb14b11, eb14b11', eb14b6, eb14b6', eb14b4, eb14b4', eb15b11, eb15b11', eb15b6, eb15b6', eb15b4, eb15b4', eb16b11, eb16b11', eb16b6, eb16b6', eb16b4, eb16b4', n45, n46, n56, n54, n64, n65, eb20b4, eb20b4', eb20b6, eb20b6', eb20b11, eb20b11', eb20b14, eb20b14', eb20b16, eb20b16', eb24b4, eb24b4', eb24b6, eb24b6', eb24b11, eb24b11', eb24b14, eb24b14', eb24b16, eb24b16', eb24b20, eb24b20', vb24, eb27b4, eb27b4', eb27b6, eb27b6', eb27b11, eb27b11', eb27b14, eb27b14', eb27b16, eb27b16', eb27b20, eb27b20', eb27b24, eb27b24', vb27] at nb30
  have eb30b4' : ¬ b4 = b30 := fun h => eb30b4 h.symm
  have eb30b6 : ¬ b30 = b6 := by rintro rfl; simp [View.set, k4, k6, k11, k14, k16, k20, eb4b2, eb4b2', eb6b2, eb6b2', eb6b4, eb6b4', eb11b6, eb11b6', eb11b4, eb11b4', eb14b11, eb14b11', eb14b6, eb14b6', eb14b4, eb14b4', eb15b11, eb15b11', eb15b6, eb15b6', eb15b4, eb15b4', eb16b11, eb16b11', eb16b6, eb16b6', eb16b4, eb16b4', n45, n46, n56, n54, n64, n65, eb20b4, eb20b4', eb20b6, eb20b6', eb20b11, eb20b11', eb20b14, eb20b14', eb20b16, eb20b16', eb24b4, eb24b4', eb24b6, eb24b6', eb24b11, eb24b11', eb24b14, eb24b14', eb24b16, eb24b16', eb24b20, eb24b20', vb24, eb27b4, eb27b4', eb27b6, eb27b6', eb27b11, eb27b11', eb27b14, eb27b14', eb27b16, eb27b16', eb27b20, eb27b20', eb27b24, eb27b24', vb27, eb30b4, eb30b4'] at nb30
  have eb30b6' : ¬ b6 = b30 := fun h => eb30b6 h.symm
  have eb30b11 : ¬ b30 = b11 := by rintro rfl; simp [View.set, k4, k6, k11, k14, k16, k20, eb4b2, eb4b2', eb6b2, eb6b2', eb6b4, eb6b4', eb11b6, eb11b6', eb11b4, eb11b4', eb14b11, eb14b11', eb14b6, eb14b6', eb14b4, eb14b4', eb15b11, eb15b11', eb15b6, eb15b6', eb15b4, eb15b4', eb16b11, eb16b11', eb16b6, eb16b6', eb16b4, eb16b4', n45, n46, n56, n54, n64, n65, eb20b4, eb20b4', eb20b6, eb20b6', eb20b11, eb20b11', eb20b14, eb20b14', eb20b16, eb20b16', eb24b4, eb24b4', eb24b6, eb24b6', eb24b11, eb24b11', eb24b14, eb24b14', eb24b16, eb24b16', eb24b20, eb24b20', vb24, eb27b4, eb27b4', eb27b6, eb27b6', eb27b11, eb27b11', eb27b14, eb27b14', eb27b16, eb27b16', eb27b20, eb27b20', eb27b24, eb27b24', vb27, eb30b4, eb30b4', eb30b6, eb30b6'] at nb30
  have eb30b11' : ¬ b11 = b30 := fun h => eb30b11 h.symm
  have eb30b14 : ¬ b30 = b14 := by rintro rfl; simp [View.set, k4, k6, k11, k14, k16, k20, eb4b2, eb4b2', eb6b2, eb6b2', eb6b4, eb6b4', eb11b6, eb11b6', eb11b4, eb11b4', eb14b11, eb14b11', eb14b6, eb14b6', eb14b4, eb14b4', eb15b11, eb15b11', eb15b6, eb15b6', eb15b4, eb15b4', eb16b11, eb16b11', eb16b6, eb16b6', eb16b4, eb16b4', n45, n46, n56, n54, n64, n65, eb20b4, eb20b4', eb20b6, eb20b6', eb20b11, eb20b11', eb20b14, eb20b14', eb20b16, eb20b16', eb24b4, eb24b4', eb24b6, eb24b6', eb24b11, eb24b11', eb24b14, eb24b14', eb24b16, eb24b16', eb24b20, eb24b20', vb24, eb27b4, eb27b4', eb27b6, eb27b6', eb27b11, eb27b11', eb27b14, eb27b14', eb27b16, eb27b16', eb27b20, eb27b20', eb27b24, eb27b24', vb27, eb30b4, eb30b4', eb30b6, eb30b6', eb30b11, eb30b11'] at nb30
  have eb30b14' : ¬ b14 = b30 := fun h => eb30b14 h.symm
  have eb30b16 : ¬ b30 = b16 := by rintro rfl; simp [View.set, k4, k6, k11, k14, k16, k20, eb4b2, eb4b2', eb6b2, eb6b2', eb6b4, eb6b4', eb11b6, eb11b6', eb11b4, eb11b4', eb14b11, eb14b11', eb14b6, eb14b6', eb14b4, eb14b4', eb15b11, eb15b11', eb15b6, eb15b6', eb15b4, eb15b4', eb16b11, eb16b11', eb16b6, eb16b6', eb16b4, eb16b4', n45, n46, n56, n54, n64, n65, eb20b4, eb20b4', eb20b6, eb20b6', eb20b11, eb20b11', eb20b14, eb20b14', eb20b16, eb20b16', eb24b4, eb24b4', eb24b6, eb24b6', eb24b11, eb24b11', eb24b14, eb24b14', eb24b16, eb24b16', eb24b20, eb24b20', vb24, eb27b4, eb27b4', eb27b6, eb27b6', eb27b11, eb27b11', eb27b14, eb27b14', eb27b16, eb27b16', eb27b20, eb27b20', eb27b24, eb27b24', vb27, eb30b4, eb30b4', eb30b6, eb30b6', eb30b11, eb30b11', eb30b14, eb30b14'] at nb30
  have eb30b16' : ¬ b16 = b30 := fun h => eb30b16 h.symm
  have eb30b20 : ¬ b30 = b20 := by rintro rfl; simp [View.set, k4, k6, k11, k14, k16, k20, eb4b2, eb4b2', eb6b2, eb6b2', eb6b4, eb6b4', eb11b6, eb11b6', eb11b4, eb11b4', eb14b11, eb14b11', eb14b6, eb14b6', eb14b4, eb14b4', eb15b11, eb15b11', eb15b6, eb15b6', eb15b4, eb15b4', eb16b11, eb16b11', eb16b6, eb16b6', eb16b4, eb16b4', n45, n46, n56, n54, n64, n65, eb20b4, eb20b4', eb20b6, eb20b6', eb20b11, eb20b11', eb20b14, eb20b14', eb20b16, eb20b16', eb24b4, eb24b4', eb24b6, eb24b6', eb24b11, eb24b11', eb24b14, eb24b14', eb24b16, eb24b16', eb24b20, eb24b20', vb24, eb27b4, eb27b4', eb27b6, eb27b6', eb27b11, eb27b11', eb27b14, eb27b14', eb27b16, eb27b16', eb27b20, eb27b20', eb27b24, eb27b24', vb27, eb30b4, eb30b4', eb30b6, eb30b6', eb30b11, eb30b11', eb30b14, eb30b14', eb30b16, eb30b16'] at nb30
  have eb30b20' : ¬ b20 = b30 := fun h => eb30b20 h.symm
  have eb30b24 : ¬ b30 = b24 := by rintro rfl; simp [View.set, k4, k6, k11, k14, k16, k20, eb4b2, eb4b2', eb6b2, eb6b2', eb6b4, eb6b4', eb11b6, eb11b6', eb11b4, eb11b4', eb14b11, eb14b11', eb14b6, eb14b6', eb14b4, eb14b4', eb15b11, eb15b11', eb15b6, eb15b6', eb15b4, eb15b4', eb16b11, eb16b11', eb16b6, eb16b6', eb16b4, eb16b4', n45, n46, n56, n54, n64, n65, eb20b4, eb20b4', eb20b6, eb20b6', eb20b11, eb20b11', eb20b14, eb20b14', eb20b16, eb20b16', eb24b4, eb24b4', eb24b6, eb24b6', eb24b11, eb24b11', eb24b14, eb24b14', eb24b16, eb24b16', eb24b20, eb24b20', vb24, eb27b4, eb27b4', eb27b6, eb27b6', eb27b11, eb27b11', eb27b14, eb27b14', eb27b16, eb27b16', eb27b20, eb27b20', eb27b24, eb27b24', vb27, eb30b4, eb30b4', eb30b6, eb30b6', eb30b11, eb30b11', eb30b14, eb30b14', eb30b16, eb30b16', eb30b20, eb30b20'] at nb30
  have eb30b24' : ¬ b24 = b30 := fun h => eb30b24 h.symm
  have eb30b27 : ¬ b30 = b27 := by rintro rfl; simp [View.set, k4, k6, k11, k14, k16, k20, eb4b2, eb4b2', eb6b2, eb6b2', eb6b4, eb6b4', eb11b6, eb11b6', eb11b4, eb11b4', eb14b11, eb14b11', eb14b6, eb14b6', eb14b4, eb14b4', eb15b11, eb15b11', eb15b6, eb15b6', eb15b4, eb15b4', eb16b11, eb16b11', eb16b6, eb16b6', eb16b4, eb16b4', n45, n46, n56, n54, n64, n65, eb20b4, eb20b4', eb20b6, eb20b6', eb20b11, eb20b11', eb20b14, eb20b14', eb20b16, eb20b16', eb24b4, eb24b4', eb24b6, eb24b6', eb24b11, eb24b11', eb24b14, eb24b14', eb24b16, eb24b16', eb24b20, eb24b20', vb24, eb27b4, eb27b4', eb27b6, eb27b6', eb27b11, eb27b11', eb27b14, eb27b14', eb27b16, eb27b16', eb27b20, eb27b20', eb27b24, eb27b24', vb27, eb30b4, eb30b4', eb30b6, eb30b6', eb30b11, eb30b11', eb30b14, eb30b14', eb30b16, eb30b16', eb30b20, eb30b20', eb30b24, eb30b24'] at nb30
  have eb30b27' : ¬ b27 = b30 := fun h => eb30b27 h.symm
  have vb30 : V₆ b30 = none := by simpa [View.set, k4, k6, k11, k14, k16, k20, eb4b2, eb4b2', eb6b2, eb6b2', eb6b4, eb6b4', eb11b6, eb11b6', eb11b4, eb11b4', eb14b11, eb14b11', eb14b6, eb14b6', eb14b4, eb14b4', eb15b11, eb15b11', eb15b6, eb15b6', eb15b4, eb15b4', eb16b11, eb16b11', eb16b6, eb16b6', eb16b4, eb16b4', n45, n46, n56, n54, n64, n65, eb20b4, eb20b4', eb20b6, eb20b6', eb20b11, eb20b11', eb20b14, eb20b14', eb20b16, eb20b16', eb24b4, eb24b4', eb24b6, eb24b6', eb24b11, eb24b11', eb24b14, eb24b14', eb24b16, eb24b16', eb24b20, eb24b20', vb24, eb27b4, eb27b4', eb27b6, eb27b6', eb27b11, eb27b11', eb27b14, eb27b14', eb27b16, eb27b16', eb27b20, eb27b20', eb27b24, eb27b24', vb27, eb30b4, eb30b4', eb30b6, eb30b6', eb30b11, eb30b11', eb30b14, eb30b14', eb30b16, eb30b16', eb30b20, eb30b20', eb30b24, eb30b24', eb30b27, eb30b27'] using nb30
  refine a_s (s_storew Try.sh24 (ev_t rfl) (ev_t rfl) (by simp [View.set, View.drop, k4, k6, k11, k14, k16, k20, eb4b2, eb4b2', eb6b2, eb6b2', eb6b4, eb6b4', eb11b6, eb11b6', eb11b4, eb11b4', eb14b11, eb14b11', eb14b6, eb14b6', eb14b4, eb14b4', eb15b11, eb15b11', eb15b6, eb15b6', eb15b4, eb15b4', eb16b11, eb16b11', eb16b6, eb16b6', eb16b4, eb16b4', n45, n46, n56, n54, n64, n65, eb20b4, eb20b4', eb20b6, eb20b6', eb20b11, eb20b11', eb20b14, eb20b14', eb20b16, eb20b16', eb24b4, eb24b4', eb24b6, eb24b6', eb24b11, eb24b11', eb24b14, eb24b14', eb24b16, eb24b16', eb24b20, eb24b20', vb24, eb27b4, eb27b4', eb27b6, eb27b6', eb27b11, eb27b11', eb27b14, eb27b14', eb27b16, eb27b16', eb27b20, eb27b20', eb27b24, eb27b24', vb27, eb30b4, eb30b4', eb30b6, eb30b6', eb30b11, eb30b11', eb30b14, eb30b14', eb30b16, eb30b16', eb30b20, eb30b20', eb30b24, eb30b24', eb30b27, eb30b27', vb30] <;> first | exact ⟨rfl, rfl⟩ | exact rfl) rfl rfl (by first | decide | (simp [ints, four]; done) | (simp [ints, four]; omega)) (wrA (f := zf))) ?_
  refine a_v rfl (s_assign (ev_t rfl)) ?_
  refine a_nil ?_
  refine a_seq (a_region ?_)
  refine a_v rfl (s_move (ev_t rfl)) ?_
  refine a_vp rfl (s_call Try.okF13 ev_f (.cons (ev_t rfl) .nil) (bk_sum hcs _)) fun x V' hx => ?_
  obtain ⟨hx1, hVV⟩ := hx; subst hx1; have hVV := hVV.symm; subst hVV
  refine a_v rfl (s_move (ev_t rfl)) ?_
  refine a_v rfl (s_extract (ev_t rfl) rfl) ?_
  refine a_v rfl (s_extract (ev_t rfl) rfl) ?_
  refine a_vp rfl (s_alloc Try.z24) fun x V' hx => ?_
  obtain ⟨b32, nb32, rfl, rfl⟩ := hx
  have eb32b4 : ¬ b32 = b4 := by rintro rfl; simp [View.set, k4, k6, k11, k14, k16, k20, eb4b2, eb4b2', eb6b2, eb6b2', eb6b4, eb6b4', eb11b6, eb11b6', eb11b4, eb11b4', eb14b11, eb14b11', eb14b6, eb14b6', eb14b4, eb14b4', eb15b11, eb15b11', eb15b6, eb15b6', eb15b4, eb15b4', eb16b11, eb16b11', eb16b6, eb16b6', eb16b4, eb16b4', n45, n46, n56, n54, n64, n65, eb20b4, eb20b4', eb20b6, eb20b6', eb20b11, eb20b11', eb20b14, eb20b14', eb20b16, eb20b16', eb24b4, eb24b4', eb24b6, eb24b6', eb24b11, eb24b11', eb24b14, eb24b14', eb24b16, eb24b16', eb24b20, eb24b20', vb24, eb27b4, eb27b4', eb27b6, eb27b6', eb27b11, eb27b11', eb27b14, eb27b14', eb27b16, eb27b16', eb27b20, eb27b20', eb27b24, eb27b24', vb27, eb30b4, eb30b4', eb30b6, eb30b6', eb30b11, eb30b11', eb30b14, eb30b14', eb30b16, eb30b16', eb30b20, eb30b20', eb30b24, eb30b24', eb30b27, eb30b27', vb30] at nb32
  have eb32b4' : ¬ b4 = b32 := fun h => eb32b4 h.symm
  have eb32b6 : ¬ b32 = b6 := by rintro rfl; simp [View.set, k4, k6, k11, k14, k16, k20, eb4b2, eb4b2', eb6b2, eb6b2', eb6b4, eb6b4', eb11b6, eb11b6', eb11b4, eb11b4', eb14b11, eb14b11', eb14b6, eb14b6', eb14b4, eb14b4', eb15b11, eb15b11', eb15b6, eb15b6', eb15b4, eb15b4', eb16b11, eb16b11', eb16b6, eb16b6', eb16b4, eb16b4', n45, n46, n56, n54, n64, n65, eb20b4, eb20b4', eb20b6, eb20b6', eb20b11, eb20b11', eb20b14, eb20b14', eb20b16, eb20b16', eb24b4, eb24b4', eb24b6, eb24b6', eb24b11, eb24b11', eb24b14, eb24b14', eb24b16, eb24b16', eb24b20, eb24b20', vb24, eb27b4, eb27b4', eb27b6, eb27b6', eb27b11, eb27b11', eb27b14, eb27b14', eb27b16, eb27b16', eb27b20, eb27b20', eb27b24, eb27b24', vb27, eb30b4, eb30b4', eb30b6, eb30b6', eb30b11, eb30b11', eb30b14, eb30b14', eb30b16, eb30b16', eb30b20, eb30b20', eb30b24, eb30b24', eb30b27, eb30b27', vb30, eb32b4, eb32b4'] at nb32
  have eb32b6' : ¬ b6 = b32 := fun h => eb32b6 h.symm
  have eb32b11 : ¬ b32 = b11 := by rintro rfl; simp [View.set, k4, k6, k11, k14, k16, k20, eb4b2, eb4b2', eb6b2, eb6b2', eb6b4, eb6b4', eb11b6, eb11b6', eb11b4, eb11b4', eb14b11, eb14b11', eb14b6, eb14b6', eb14b4, eb14b4', eb15b11, eb15b11', eb15b6, eb15b6', eb15b4, eb15b4', eb16b11, eb16b11', eb16b6, eb16b6', eb16b4, eb16b4', n45, n46, n56, n54, n64, n65, eb20b4, eb20b4', eb20b6, eb20b6', eb20b11, eb20b11', eb20b14, eb20b14', eb20b16, eb20b16', eb24b4, eb24b4', eb24b6, eb24b6', eb24b11, eb24b11', eb24b14, eb24b14', eb24b16, eb24b16', eb24b20, eb24b20', vb24, eb27b4, eb27b4', eb27b6, eb27b6', eb27b11, eb27b11', eb27b14, eb27b14', eb27b16, eb27b16', eb27b20, eb27b20', eb27b24, eb27b24', vb27, eb30b4, eb30b4', eb30b6, eb30b6', eb30b11, eb30b11', eb30b14, eb30b14', eb30b16, eb30b16', eb30b20, eb30b20', eb30b24, eb30b24', eb30b27, eb30b27', vb30, eb32b4, eb32b4', eb32b6, eb32b6'] at nb32
  have eb32b11' : ¬ b11 = b32 := fun h => eb32b11 h.symm
  have eb32b14 : ¬ b32 = b14 := by rintro rfl; simp [View.set, k4, k6, k11, k14, k16, k20, eb4b2, eb4b2', eb6b2, eb6b2', eb6b4, eb6b4', eb11b6, eb11b6', eb11b4, eb11b4', eb14b11, eb14b11', eb14b6, eb14b6', eb14b4, eb14b4', eb15b11, eb15b11', eb15b6, eb15b6', eb15b4, eb15b4', eb16b11, eb16b11', eb16b6, eb16b6', eb16b4, eb16b4', n45, n46, n56, n54, n64, n65, eb20b4, eb20b4', eb20b6, eb20b6', eb20b11, eb20b11', eb20b14, eb20b14', eb20b16, eb20b16', eb24b4, eb24b4', eb24b6, eb24b6', eb24b11, eb24b11', eb24b14, eb24b14', eb24b16, eb24b16', eb24b20, eb24b20', vb24, eb27b4, eb27b4', eb27b6, eb27b6', eb27b11, eb27b11', eb27b14, eb27b14', eb27b16, eb27b16', eb27b20, eb27b20', eb27b24, eb27b24', vb27, eb30b4, eb30b4', eb30b6, eb30b6', eb30b11, eb30b11', eb30b14, eb30b14', eb30b16, eb30b16', eb30b20, eb30b20', eb30b24, eb30b24', eb30b27, eb30b27', vb30, eb32b4, eb32b4', eb32b6, eb32b6', eb32b11, eb32b11'] at nb32
  have eb32b14' : ¬ b14 = b32 := fun h => eb32b14 h.symm
  have eb32b16 : ¬ b32 = b16 := by rintro rfl; simp [View.set, k4, k6, k11, k14, k16, k20, eb4b2, eb4b2', eb6b2, eb6b2', eb6b4, eb6b4', eb11b6, eb11b6', eb11b4, eb11b4', eb14b11, eb14b11', eb14b6, eb14b6', eb14b4, eb14b4', eb15b11, eb15b11', eb15b6, eb15b6', eb15b4, eb15b4', eb16b11, eb16b11', eb16b6, eb16b6', eb16b4, eb16b4', n45, n46, n56, n54, n64, n65, eb20b4, eb20b4', eb20b6, eb20b6', eb20b11, eb20b11', eb20b14, eb20b14', eb20b16, eb20b16', eb24b4, eb24b4', eb24b6, eb24b6', eb24b11, eb24b11', eb24b14, eb24b14', eb24b16, eb24b16', eb24b20, eb24b20', vb24, eb27b4, eb27b4', eb27b6, eb27b6', eb27b11, eb27b11', eb27b14, eb27b14', eb27b16, eb27b16', eb27b20, eb27b20', eb27b24, eb27b24', vb27, eb30b4, eb30b4', eb30b6, eb30b6', eb30b11, eb30b11', eb30b14, eb30b14', eb30b16, eb30b16', eb30b20, eb30b20', eb30b24, eb30b24', eb30b27, eb30b27', vb30, eb32b4, eb32b4', eb32b6, eb32b6', eb32b11, eb32b11', eb32b14, eb32b14'] at nb32
  have eb32b16' : ¬ b16 = b32 := fun h => eb32b16 h.symm
  have eb32b20 : ¬ b32 = b20 := by rintro rfl; simp [View.set, k4, k6, k11, k14, k16, k20, eb4b2, eb4b2', eb6b2, eb6b2', eb6b4, eb6b4', eb11b6, eb11b6', eb11b4, eb11b4', eb14b11, eb14b11', eb14b6, eb14b6', eb14b4, eb14b4', eb15b11, eb15b11', eb15b6, eb15b6', eb15b4, eb15b4', eb16b11, eb16b11', eb16b6, eb16b6', eb16b4, eb16b4', n45, n46, n56, n54, n64, n65, eb20b4, eb20b4', eb20b6, eb20b6', eb20b11, eb20b11', eb20b14, eb20b14', eb20b16, eb20b16', eb24b4, eb24b4', eb24b6, eb24b6', eb24b11, eb24b11', eb24b14, eb24b14', eb24b16, eb24b16', eb24b20, eb24b20', vb24, eb27b4, eb27b4', eb27b6, eb27b6', eb27b11, eb27b11', eb27b14, eb27b14', eb27b16, eb27b16', eb27b20, eb27b20', eb27b24, eb27b24', vb27, eb30b4, eb30b4', eb30b6, eb30b6', eb30b11, eb30b11', eb30b14, eb30b14', eb30b16, eb30b16', eb30b20, eb30b20', eb30b24, eb30b24', eb30b27, eb30b27', vb30, eb32b4, eb32b4', eb32b6, eb32b6', eb32b11, eb32b11', eb32b14, eb32b14', eb32b16, eb32b16'] at nb32
  have eb32b20' : ¬ b20 = b32 := fun h => eb32b20 h.symm
  have eb32b24 : ¬ b32 = b24 := by rintro rfl; simp [View.set, k4, k6, k11, k14, k16, k20, eb4b2, eb4b2', eb6b2, eb6b2', eb6b4, eb6b4', eb11b6, eb11b6', eb11b4, eb11b4', eb14b11, eb14b11', eb14b6, eb14b6', eb14b4, eb14b4', eb15b11, eb15b11', eb15b6, eb15b6', eb15b4, eb15b4', eb16b11, eb16b11', eb16b6, eb16b6', eb16b4, eb16b4', n45, n46, n56, n54, n64, n65, eb20b4, eb20b4', eb20b6, eb20b6', eb20b11, eb20b11', eb20b14, eb20b14', eb20b16, eb20b16', eb24b4, eb24b4', eb24b6, eb24b6', eb24b11, eb24b11', eb24b14, eb24b14', eb24b16, eb24b16', eb24b20, eb24b20', vb24, eb27b4, eb27b4', eb27b6, eb27b6', eb27b11, eb27b11', eb27b14, eb27b14', eb27b16, eb27b16', eb27b20, eb27b20', eb27b24, eb27b24', vb27, eb30b4, eb30b4', eb30b6, eb30b6', eb30b11, eb30b11', eb30b14, eb30b14', eb30b16, eb30b16', eb30b20, eb30b20', eb30b24, eb30b24', eb30b27, eb30b27', vb30, eb32b4, eb32b4', eb32b6, eb32b6', eb32b11, eb32b11', eb32b14, eb32b14', eb32b16, eb32b16', eb32b20, eb32b20'] at nb32
  have eb32b24' : ¬ b24 = b32 := fun h => eb32b24 h.symm
  have eb32b27 : ¬ b32 = b27 := by rintro rfl; simp [View.set, k4, k6, k11, k14, k16, k20, eb4b2, eb4b2', eb6b2, eb6b2', eb6b4, eb6b4', eb11b6, eb11b6', eb11b4, eb11b4', eb14b11, eb14b11', eb14b6, eb14b6', eb14b4, eb14b4', eb15b11, eb15b11', eb15b6, eb15b6', eb15b4, eb15b4', eb16b11, eb16b11', eb16b6, eb16b6', eb16b4, eb16b4', n45, n46, n56, n54, n64, n65, eb20b4, eb20b4', eb20b6, eb20b6', eb20b11, eb20b11', eb20b14, eb20b14', eb20b16, eb20b16', eb24b4, eb24b4', eb24b6, eb24b6', eb24b11, eb24b11', eb24b14, eb24b14', eb24b16, eb24b16', eb24b20, eb24b20', vb24, eb27b4, eb27b4', eb27b6, eb27b6', eb27b11, eb27b11', eb27b14, eb27b14', eb27b16, eb27b16', eb27b20, eb27b20', eb27b24, eb27b24', vb27, eb30b4, eb30b4', eb30b6, eb30b6', eb30b11, eb30b11', eb30b14, eb30b14', eb30b16, eb30b16', eb30b20, eb30b20', eb30b24, eb30b24', eb30b27, eb30b27', vb30, eb32b4, eb32b4', eb32b6, eb32b6', eb32b11, eb32b11', eb32b14, eb32b14', eb32b16, eb32b16', eb32b20, eb32b20', eb32b24, eb32b24'] at nb32
  have eb32b27' : ¬ b27 = b32 := fun h => eb32b27 h.symm
  have eb32b30 : ¬ b32 = b30 := by rintro rfl; simp [View.set, k4, k6, k11, k14, k16, k20, eb4b2, eb4b2', eb6b2, eb6b2', eb6b4, eb6b4', eb11b6, eb11b6', eb11b4, eb11b4', eb14b11, eb14b11', eb14b6, eb14b6', eb14b4, eb14b4', eb15b11, eb15b11', eb15b6, eb15b6', eb15b4, eb15b4', eb16b11, eb16b11', eb16b6, eb16b6', eb16b4, eb16b4', n45, n46, n56, n54, n64, n65, eb20b4, eb20b4', eb20b6, eb20b6', eb20b11, eb20b11', eb20b14, eb20b14', eb20b16, eb20b16', eb24b4, eb24b4', eb24b6, eb24b6', eb24b11, eb24b11', eb24b14, eb24b14', eb24b16, eb24b16', eb24b20, eb24b20', vb24, eb27b4, eb27b4', eb27b6, eb27b6', eb27b11, eb27b11', eb27b14, eb27b14', eb27b16, eb27b16', eb27b20, eb27b20', eb27b24, eb27b24', vb27, eb30b4, eb30b4', eb30b6, eb30b6', eb30b11, eb30b11', eb30b14, eb30b14', eb30b16, eb30b16', eb30b20, eb30b20', eb30b24, eb30b24', eb30b27, eb30b27', vb30, eb32b4, eb32b4', eb32b6, eb32b6', eb32b11, eb32b11', eb32b14, eb32b14', eb32b16, eb32b16', eb32b20, eb32b20', eb32b24, eb32b24', eb32b27, eb32b27'] at nb32
  have eb32b30' : ¬ b30 = b32 := fun h => eb32b30 h.symm
  have vb32 : V₆ b32 = none := by simpa [View.set, k4, k6, k11, k14, k16, k20, eb4b2, eb4b2', eb6b2, eb6b2', eb6b4, eb6b4', eb11b6, eb11b6', eb11b4, eb11b4', eb14b11, eb14b11', eb14b6, eb14b6', eb14b4, eb14b4', eb15b11, eb15b11', eb15b6, eb15b6', eb15b4, eb15b4', eb16b11, eb16b11', eb16b6, eb16b6', eb16b4, eb16b4', n45, n46, n56, n54, n64, n65, eb20b4, eb20b4', eb20b6, eb20b6', eb20b11, eb20b11', eb20b14, eb20b14', eb20b16, eb20b16', eb24b4, eb24b4', eb24b6, eb24b6', eb24b11, eb24b11', eb24b14, eb24b14', eb24b16, eb24b16', eb24b20, eb24b20', vb24, eb27b4, eb27b4', eb27b6, eb27b6', eb27b11, eb27b11', eb27b14, eb27b14', eb27b16, eb27b16', eb27b20, eb27b20', eb27b24, eb27b24', vb27, eb30b4, eb30b4', eb30b6, eb30b6', eb30b11, eb30b11', eb30b14, eb30b14', eb30b16, eb30b16', eb30b20, eb30b20', eb30b24, eb30b24', eb30b27, eb30b27', vb30, eb32b4, eb32b4', eb32b6, eb32b6', eb32b11, eb32b11', eb32b14, eb32b14', eb32b16, eb32b16', eb32b20, eb32b20', eb32b24, eb32b24', eb32b27, eb32b27', eb32b30, eb32b30'] using nb32
  refine a_s (s_storew Try.sh24 (ev_t rfl) (ev_t rfl) (by simp [View.set, View.drop, k4, k6, k11, k14, k16, k20, eb4b2, eb4b2', eb6b2, eb6b2', eb6b4, eb6b4', eb11b6, eb11b6', eb11b4, eb11b4', eb14b11, eb14b11', eb14b6, eb14b6', eb14b4, eb14b4', eb15b11, eb15b11', eb15b6, eb15b6', eb15b4, eb15b4', eb16b11, eb16b11', eb16b6, eb16b6', eb16b4, eb16b4', n45, n46, n56, n54, n64, n65, eb20b4, eb20b4', eb20b6, eb20b6', eb20b11, eb20b11', eb20b14, eb20b14', eb20b16, eb20b16', eb24b4, eb24b4', eb24b6, eb24b6', eb24b11, eb24b11', eb24b14, eb24b14', eb24b16, eb24b16', eb24b20, eb24b20', vb24, eb27b4, eb27b4', eb27b6, eb27b6', eb27b11, eb27b11', eb27b14, eb27b14', eb27b16, eb27b16', eb27b20, eb27b20', eb27b24, eb27b24', vb27, eb30b4, eb30b4', eb30b6, eb30b6', eb30b11, eb30b11', eb30b14, eb30b14', eb30b16, eb30b16', eb30b20, eb30b20', eb30b24, eb30b24', eb30b27, eb30b27', vb30, eb32b4, eb32b4', eb32b6, eb32b6', eb32b11, eb32b11', eb32b14, eb32b14', eb32b16, eb32b16', eb32b20, eb32b20', eb32b24, eb32b24', eb32b27, eb32b27', eb32b30, eb32b30', vb32] <;> first | exact ⟨rfl, rfl⟩ | exact rfl) rfl rfl (by first | decide | (simp [ints, four]; done) | (simp [ints, four]; omega)) (wrA (f := zf))) ?_
  refine a_v rfl (s_assign (ev_t rfl)) ?_
  refine a_nil ?_
  refine a_seq (a_seq (a_region ?_))
  refine a_v rfl (s_load Try.sh49 (ev_t rfl) (by simp [View.set, View.drop, k4, k6, k11, k14, k16, k20, eb4b2, eb4b2', eb6b2, eb6b2', eb6b4, eb6b4', eb11b6, eb11b6', eb11b4, eb11b4', eb14b11, eb14b11', eb14b6, eb14b6', eb14b4, eb14b4', eb15b11, eb15b11', eb15b6, eb15b6', eb15b4, eb15b4', eb16b11, eb16b11', eb16b6, eb16b6', eb16b4, eb16b4', n45, n46, n56, n54, n64, n65, eb20b4, eb20b4', eb20b6, eb20b6', eb20b11, eb20b11', eb20b14, eb20b14', eb20b16, eb20b16', eb24b4, eb24b4', eb24b6, eb24b6', eb24b11, eb24b11', eb24b14, eb24b14', eb24b16, eb24b16', eb24b20, eb24b20', vb24, eb27b4, eb27b4', eb27b6, eb27b6', eb27b11, eb27b11', eb27b14, eb27b14', eb27b16, eb27b16', eb27b20, eb27b20', eb27b24, eb27b24', vb27, eb30b4, eb30b4', eb30b6, eb30b6', eb30b11, eb30b11', eb30b14, eb30b14', eb30b16, eb30b16', eb30b20, eb30b20', eb30b24, eb30b24', eb30b27, eb30b27', vb30, eb32b4, eb32b4', eb32b6, eb32b6', eb32b11, eb32b11', eb32b14, eb32b14', eb32b16, eb32b16', eb32b20, eb32b20', eb32b24, eb32b24', eb32b27, eb32b27', eb32b30, eb32b30', vb32] <;> first | exact ⟨rfl, rfl⟩ | exact rfl) bkA) ?_
  refine a_v rfl (s_load Try.sh49 (ev_t rfl) (by simp [View.set, View.drop, k4, k6, k11, k14, k16, k20, eb4b2, eb4b2', eb6b2, eb6b2', eb6b4, eb6b4', eb11b6, eb11b6', eb11b4, eb11b4', eb14b11, eb14b11', eb14b6, eb14b6', eb14b4, eb14b4', eb15b11, eb15b11', eb15b6, eb15b6', eb15b4, eb15b4', eb16b11, eb16b11', eb16b6, eb16b6', eb16b4, eb16b4', n45, n46, n56, n54, n64, n65, eb20b4, eb20b4', eb20b6, eb20b6', eb20b11, eb20b11', eb20b14, eb20b14', eb20b16, eb20b16', eb24b4, eb24b4', eb24b6, eb24b6', eb24b11, eb24b11', eb24b14, eb24b14', eb24b16, eb24b16', eb24b20, eb24b20', vb24, eb27b4, eb27b4', eb27b6, eb27b6', eb27b11, eb27b11', eb27b14, eb27b14', eb27b16, eb27b16', eb27b20, eb27b20', eb27b24, eb27b24', vb27, eb30b4, eb30b4', eb30b6, eb30b6', eb30b11, eb30b11', eb30b14, eb30b14', eb30b16, eb30b16', eb30b20, eb30b20', eb30b24, eb30b24', eb30b27, eb30b27', vb30, eb32b4, eb32b4', eb32b6, eb32b6', eb32b11, eb32b11', eb32b14, eb32b14', eb32b16, eb32b16', eb32b20, eb32b20', eb32b24, eb32b24', eb32b27, eb32b27', eb32b30, eb32b30', vb32] <;> first | exact ⟨rfl, rfl⟩ | exact rfl) bkA) ?_
  refine a_v rfl (s_neqbk (ev_t rfl) (ev_t rfl)) ?_
  refine a_v rfl (s_move (ev_t rfl)) ?_
  refine a_f rfl (f_guard rfl (gd_b rfl (ev_t rfl)) fun h3 => s_move (ev_t rfl)) ?_
  refine a_f rfl (f_guard rfl (gd_b rfl (ev_t rfl)) fun h3 => s_move (ev_t rfl)) ?_
  refine a_f rfl (f_guard rfl (gd_b rfl (ev_t rfl)) fun h3 => s_cmp (ev_cond (ev_t rfl) h3) (ev_cond (ev_t rfl) h3) rfl) ?_
  refine a_v rfl (s_pickor (ev_t rfl) (ev_t rfl)) ?_
  refine a_v rfl (s_move (ev_t rfl)) ?_
  refine a_f rfl (f_guard rfl (gd_b rfl (ev_t rfl)) fun h8 => s_move (ev_t rfl)) ?_
  refine a_f rfl (f_guard rfl (gd_b rfl (ev_t rfl)) fun h8 => s_move (ev_t rfl)) ?_
  refine a_f rfl (f_guard rfl (gd_b rfl (ev_t rfl)) fun h8 => s_cmp (ev_cond (ev_t rfl) h8) (ev_cond (ev_t rfl) h8) rfl) ?_
  refine a_v rfl (s_pickor (ev_t rfl) (ev_t rfl)) ?_
  refine a_v rfl (s_move (ev_t rfl)) ?_
  refine a_f rfl (f_guard rfl (gd_b rfl (ev_t rfl)) fun h13 => s_load Try.sh49 (ev_t rfl) (by simp [View.set, View.drop, k4, k6, k11, k14, k16, k20, eb4b2, eb4b2', eb6b2, eb6b2', eb6b4, eb6b4', eb11b6, eb11b6', eb11b4, eb11b4', eb14b11, eb14b11', eb14b6, eb14b6', eb14b4, eb14b4', eb15b11, eb15b11', eb15b6, eb15b6', eb15b4, eb15b4', eb16b11, eb16b11', eb16b6, eb16b6', eb16b4, eb16b4', n45, n46, n56, n54, n64, n65, eb20b4, eb20b4', eb20b6, eb20b6', eb20b11, eb20b11', eb20b14, eb20b14', eb20b16, eb20b16', eb24b4, eb24b4', eb24b6, eb24b6', eb24b11, eb24b11', eb24b14, eb24b14', eb24b16, eb24b16', eb24b20, eb24b20', vb24, eb27b4, eb27b4', eb27b6, eb27b6', eb27b11, eb27b11', eb27b14, eb27b14', eb27b16, eb27b16', eb27b20, eb27b20', eb27b24, eb27b24', vb27, eb30b4, eb30b4', eb30b6, eb30b6', eb30b11, eb30b11', eb30b14, eb30b14', eb30b16, eb30b16', eb30b20, eb30b20', eb30b24, eb30b24', eb30b27, eb30b27', vb30, eb32b4, eb32b4', eb32b6, eb32b6', eb32b11, eb32b11', eb32b14, eb32b14', eb32b16, eb32b16', eb32b20, eb32b20', eb32b24, eb32b24', eb32b27, eb32b27', eb32b30, eb32b30', vb32] <;> first | exact ⟨rfl, rfl⟩ | exact rfl) bkA) ?_
  refine a_f rfl (f_guard rfl (gd_b rfl (ev_t rfl)) fun h13 => s_load Try.sh49 (ev_t rfl) (by simp [View.set, View.drop, k4, k6, k11, k14, k16, k20, eb4b2, eb4b2', eb6b2, eb6b2', eb6b4, eb6b4', eb11b6, eb11b6', eb11b4, eb11b4', eb14b11, eb14b11', eb14b6, eb14b6', eb14b4, eb14b4', eb15b11, eb15b11', eb15b6, eb15b6', eb15b4, eb15b4', eb16b11, eb16b11', eb16b6, eb16b6', eb16b4, eb16b4', n45, n46, n56, n54, n64, n65, eb20b4, eb20b4', eb20b6, eb20b6', eb20b11, eb20b11', eb20b14, eb20b14', eb20b16, eb20b16', eb24b4, eb24b4', eb24b6, eb24b6', eb24b11, eb24b11', eb24b14, eb24b14', eb24b16, eb24b16', eb24b20, eb24b20', vb24, eb27b4, eb27b4', eb27b6, eb27b6', eb27b11, eb27b11', eb27b14, eb27b14', eb27b16, eb27b16', eb27b20, eb27b20', eb27b24, eb27b24', vb27, eb30b4, eb30b4', eb30b6, eb30b6', eb30b11, eb30b11', eb30b14, eb30b14', eb30b16, eb30b16', eb30b20, eb30b20', eb30b24, eb30b24', eb30b27, eb30b27', vb30, eb32b4, eb32b4', eb32b6, eb32b6', eb32b11, eb32b11', eb32b14, eb32b14', eb32b16, eb32b16', eb32b20, eb32b20', eb32b24, eb32b24', eb32b27, eb32b27', eb32b30, eb32b30', vb32] <;> first | exact ⟨rfl, rfl⟩ | exact rfl) bkA) ?_
  refine a_f rfl (f_guard rfl (gd_b rfl (ev_t rfl)) fun h13 => s_neqbk (ev_cond (ev_t rfl) h13) (ev_cond (ev_t rfl) h13)) ?_
  refine a_v rfl (s_pickor (ev_t rfl) (ev_t rfl)) ?_
  refine a_v rfl (s_move (ev_t rfl)) ?_
  refine a_f rfl (f_guard rfl (gd_b rfl (ev_t rfl)) fun h18 => s_move (ev_t rfl)) ?_
  refine a_f rfl (f_guard rfl (gd_b rfl (ev_t rfl)) fun h18 => s_move (ev_t rfl)) ?_
  refine a_f rfl (f_guard rfl (gd_b rfl (ev_t rfl)) fun h18 => s_cmp (ev_cond (ev_t rfl) h18) (ev_cond (ev_t rfl) h18) rfl) ?_
  refine a_v rfl (s_pickor (ev_t rfl) (ev_t rfl)) ?_
  refine a_v rfl (s_move (ev_t rfl)) ?_
  refine a_f rfl (f_guard rfl (gd_b rfl (ev_t rfl)) fun h23 => s_move (ev_t rfl)) ?_
  refine a_f rfl (f_guard rfl (gd_b rfl (ev_t rfl)) fun h23 => s_move (ev_t rfl)) ?_
  refine a_f rfl (f_guard rfl (gd_b rfl (ev_t rfl)) fun h23 => s_cmp (ev_cond (ev_t rfl) h23) (ev_cond (ev_t rfl) h23) rfl) ?_
  refine a_v rfl (s_pickor (ev_t rfl) (ev_t rfl)) ?_
  refine a_v rfl (s_move (ev_t rfl)) ?_
  refine a_f rfl (f_guard rfl (gd_b rfl (ev_t rfl)) fun h28 => s_load Try.sh24 (ev_t rfl) (by simp [View.set, View.drop, k4, k6, k11, k14, k16, k20, eb4b2, eb4b2', eb6b2, eb6b2', eb6b4, eb6b4', eb11b6, eb11b6', eb11b4, eb11b4', eb14b11, eb14b11', eb14b6, eb14b6', eb14b4, eb14b4', eb15b11, eb15b11', eb15b6, eb15b6', eb15b4, eb15b4', eb16b11, eb16b11', eb16b6, eb16b6', eb16b4, eb16b4', n45, n46, n56, n54, n64, n65, eb20b4, eb20b4', eb20b6, eb20b6', eb20b11, eb20b11', eb20b14, eb20b14', eb20b16, eb20b16', eb24b4, eb24b4', eb24b6, eb24b6', eb24b11, eb24b11', eb24b14, eb24b14', eb24b16, eb24b16', eb24b20, eb24b20', vb24, eb27b4, eb27b4', eb27b6, eb27b6', eb27b11, eb27b11', eb27b14, eb27b14', eb27b16, eb27b16', eb27b20, eb27b20', eb27b24, eb27b24', vb27, eb30b4, eb30b4', eb30b6, eb30b6', eb30b11, eb30b11', eb30b14, eb30b14', eb30b16, eb30b16', eb30b20, eb30b20', eb30b24, eb30b24', eb30b27, eb30b27', vb30, eb32b4, eb32b4', eb32b6, eb32b6', eb32b11, eb32b11', eb32b14, eb32b14', eb32b16, eb32b16', eb32b20, eb32b20', eb32b24, eb32b24', eb32b27, eb32b27', eb32b30, eb32b30', vb32] <;> first | exact ⟨rfl, rfl⟩ | exact rfl) rdA) ?_
  refine a_f rfl (f_guard rfl (gd_b rfl (ev_t rfl)) fun h28 => s_load Try.sh24 (ev_t rfl) (by simp [View.set, View.drop, k4, k6, k11, k14, k16, k20, eb4b2, eb4b2', eb6b2, eb6b2', eb6b4, eb6b4', eb11b6, eb11b6', eb11b4, eb11b4', eb14b11, eb14b11', eb14b6, eb14b6', eb14b4, eb14b4', eb15b11, eb15b11', eb15b6, eb15b6', eb15b4, eb15b4', eb16b11, eb16b11', eb16b6, eb16b6', eb16b4, eb16b4', n45, n46, n56, n54, n64, n65, eb20b4, eb20b4', eb20b6, eb20b6', eb20b11, eb20b11', eb20b14, eb20b14', eb20b16, eb20b16', eb24b4, eb24b4', eb24b6, eb24b6', eb24b11, eb24b11', eb24b14, eb24b14', eb24b16, eb24b16', eb24b20, eb24b20', vb24, eb27b4, eb27b4', eb27b6, eb27b6', eb27b11, eb27b11', eb27b14, eb27b14', eb27b16, eb27b16', eb27b20, eb27b20', eb27b24, eb27b24', vb27, eb30b4, eb30b4', eb30b6, eb30b6', eb30b11, eb30b11', eb30b14, eb30b14', eb30b16, eb30b16', eb30b20, eb30b20', eb30b24, eb30b24', eb30b27, eb30b27', vb30, eb32b4, eb32b4', eb32b6, eb32b6', eb32b11, eb32b11', eb32b14, eb32b14', eb32b16, eb32b16', eb32b20, eb32b20', eb32b24, eb32b24', eb32b27, eb32b27', eb32b30, eb32b30', vb32] <;> first | exact ⟨rfl, rfl⟩ | exact rfl) rdA) ?_
  refine a_f rfl (f_guard rfl (gd_b rfl (ev_t rfl)) fun h28 => s_neq4 (ev_cond (ev_t rfl) h28) (ev_cond (ev_t rfl) h28)) ?_
  refine a_v rfl (s_pickor (ev_t rfl) (ev_t rfl)) ?_
  refine a_v rfl (s_move (ev_t rfl)) ?_
  refine a_f rfl (f_guard rfl (gd_b rfl (ev_t rfl)) fun h33 => s_move (ev_t rfl)) ?_
  refine a_f rfl (f_guard rfl (gd_b rfl (ev_t rfl)) fun h33 => s_cmp (ev_cond (ev_t rfl) h33) ev_c rfl) ?_
  refine a_v rfl (s_pickor (ev_t rfl) (ev_t rfl)) ?_
  refine a_v rfl (s_move (ev_t rfl)) ?_
  refine a_f rfl (f_guard rfl (gd_b rfl (ev_t rfl)) fun h37 => s_load Try.sh24 (ev_t rfl) (by simp [View.set, View.drop, k4, k6, k11, k14, k16, k20, eb4b2, eb4b2', eb6b2, eb6b2', eb6b4, eb6b4', eb11b6, eb11b6', eb11b4, eb11b4', eb14b11, eb14b11', eb14b6, eb14b6', eb14b4, eb14b4', eb15b11, eb15b11', eb15b6, eb15b6', eb15b4, eb15b4', eb16b11, eb16b11', eb16b6, eb16b6', eb16b4, eb16b4', n45, n46, n56, n54, n64, n65, eb20b4, eb20b4', eb20b6, eb20b6', eb20b11, eb20b11', eb20b14, eb20b14', eb20b16, eb20b16', eb24b4, eb24b4', eb24b6, eb24b6', eb24b11, eb24b11', eb24b14, eb24b14', eb24b16, eb24b16', eb24b20, eb24b20', vb24, eb27b4, eb27b4', eb27b6, eb27b6', eb27b11, eb27b11', eb27b14, eb27b14', eb27b16, eb27b16', eb27b20, eb27b20', eb27b24, eb27b24', vb27, eb30b4, eb30b4', eb30b6, eb30b6', eb30b11, eb30b11', eb30b14, eb30b14', eb30b16, eb30b16', eb30b20, eb30b20', eb30b24, eb30b24', eb30b27, eb30b27', vb30, eb32b4, eb32b4', eb32b6, eb32b6', eb32b11, eb32b11', eb32b14, eb32b14', eb32b16, eb32b16', eb32b20, eb32b20', eb32b24, eb32b24', eb32b27, eb32b27', eb32b30, eb32b30', vb32] <;> first | exact ⟨rfl, rfl⟩ | exact rfl) rdA) ?_
  refine a_f rfl (f_guard rfl (gd_b rfl (ev_t rfl)) fun h37 => s_load Try.sh24 (ev_t rfl) (by simp [View.set, View.drop, k4, k6, k11, k14, k16, k20, eb4b2, eb4b2', eb6b2, eb6b2', eb6b4, eb6b4', eb11b6, eb11b6', eb11b4, eb11b4', eb14b11, eb14b11', eb14b6, eb14b6', eb14b4, eb14b4', eb15b11, eb15b11', eb15b6, eb15b6', eb15b4, eb15b4', eb16b11, eb16b11', eb16b6, eb16b6', eb16b4, eb16b4', n45, n46, n56, n54, n64, n65, eb20b4, eb20b4', eb20b6, eb20b6', eb20b11, eb20b11', eb20b14, eb20b14', eb20b16, eb20b16', eb24b4, eb24b4', eb24b6, eb24b6', eb24b11, eb24b11', eb24b14, eb24b14', eb24b16, eb24b16', eb24b20, eb24b20', vb24, eb27b4, eb27b4', eb27b6, eb27b6', eb27b11, eb27b11', eb27b14, eb27b14', eb27b16, eb27b16', eb27b20, eb27b20', eb27b24, eb27b24', vb27, eb30b4, eb30b4', eb30b6, eb30b6', eb30b11, eb30b11', eb30b14, eb30b14', eb30b16, eb30b16', eb30b20, eb30b20', eb30b24, eb30b24', eb30b27, eb30b27', vb30, eb32b4, eb32b4', eb32b6, eb32b6', eb32b11, eb32b11', eb32b14, eb32b14', eb32b16, eb32b16', eb32b20, eb32b20', eb32b24, eb32b24', eb32b27, eb32b27', eb32b30, eb32b30', vb32] <;> first | exact ⟨rfl, rfl⟩ | exact rfl) rdA) ?_
  refine a_f rfl (f_guard rfl (gd_b rfl (ev_t rfl)) fun h37 => s_neq4 (ev_cond (ev_t rfl) h37) (ev_cond (ev_t rfl) h37)) ?_
  refine a_v rfl (s_pickor (ev_t rfl) (ev_t rfl)) ?_
  refine a_v rfl (s_move (ev_t rfl)) ?_
  refine a_f rfl (f_guard rfl (gd_b rfl (ev_t rfl)) fun h42 => s_move (ev_t rfl)) ?_
  refine a_f rfl (f_guard rfl (gd_b rfl (ev_t rfl)) fun h42 => s_cmp (ev_cond (ev_t rfl) h42) ev_c rfl) ?_
  refine a_v rfl (s_pickor (ev_t rfl) (ev_t rfl)) ?_
  refine a_nil ?_
  refine a_cond (ev_t rfl) (fun hc => ?_) (fun hc => a_skip ?_)
  · exfalso; simp at hc
  refine a_gen fun V₇ hV₇ => ?_
  have k4' : V₇ b4 = some (.row (ints (four zf))) := by rw [hV₇]; simp [View.set, k4, k6, k11, k14, k16, k20, eb4b2, eb4b2', eb6b2, eb6b2', eb6b4, eb6b4', eb11b6, eb11b6', eb11b4, eb11b4', eb14b11, eb14b11', eb14b6, eb14b6', eb14b4, eb14b4', eb15b11, eb15b11', eb15b6, eb15b6', eb15b4, eb15b4', eb16b11, eb16b11', eb16b6, eb16b6', eb16b4, eb16b4', n45, n46, n56, n54, n64, n65, eb20b4, eb20b4', eb20b6, eb20b6', eb20b11, eb20b11', eb20b14, eb20b14', eb20b16, eb20b16', eb24b4, eb24b4', eb24b6, eb24b6', eb24b11, eb24b11', eb24b14, eb24b14', eb24b16, eb24b16', eb24b20, eb24b20', vb24, eb27b4, eb27b4', eb27b6, eb27b6', eb27b11, eb27b11', eb27b14, eb27b14', eb27b16, eb27b16', eb27b20, eb27b20', eb27b24, eb27b24', vb27, eb30b4, eb30b4', eb30b6, eb30b6', eb30b11, eb30b11', eb30b14, eb30b14', eb30b16, eb30b16', eb30b20, eb30b20', eb30b24, eb30b24', eb30b27, eb30b27', vb30, eb32b4, eb32b4', eb32b6, eb32b6', eb32b11, eb32b11', eb32b14, eb32b14', eb32b16, eb32b16', eb32b20, eb32b20', eb32b24, eb32b24', eb32b27, eb32b27', eb32b30, eb32b30', vb32]
  have k6' : V₇ b6 = some (.row (bk nn (third nn))) := by rw [hV₇]; simp [View.set, k4, k6, k11, k14, k16, k20, eb4b2, eb4b2', eb6b2, eb6b2', eb6b4, eb6b4', eb11b6, eb11b6', eb11b4, eb11b4', eb14b11, eb14b11', eb14b6, eb14b6', eb14b4, eb14b4', eb15b11, eb15b11', eb15b6, eb15b6', eb15b4, eb15b4', eb16b11, eb16b11', eb16b6, eb16b6', eb16b4, eb16b4', n45, n46, n56, n54, n64, n65, eb20b4, eb20b4', eb20b6, eb20b6', eb20b11, eb20b11', eb20b14, eb20b14', eb20b16, eb20b16', eb24b4, eb24b4', eb24b6, eb24b6', eb24b11, eb24b11', eb24b14, eb24b14', eb24b16, eb24b16', eb24b20, eb24b20', vb24, eb27b4, eb27b4', eb27b6, eb27b6', eb27b11, eb27b11', eb27b14, eb27b14', eb27b16, eb27b16', eb27b20, eb27b20', eb27b24, eb27b24', vb27, eb30b4, eb30b4', eb30b6, eb30b6', eb30b11, eb30b11', eb30b14, eb30b14', eb30b16, eb30b16', eb30b20, eb30b20', eb30b24, eb30b24', eb30b27, eb30b27', vb30, eb32b4, eb32b4', eb32b6, eb32b6', eb32b11, eb32b11', eb32b14, eb32b14', eb32b16, eb32b16', eb32b20, eb32b20', eb32b24, eb32b24', eb32b27, eb32b27', eb32b30, eb32b30', vb32]
  have k11' : V₇ b11 = some (.row (bk A' S')) := by rw [hV₇]; simp [View.set, k4, k6, k11, k14, k16, k20, eb4b2, eb4b2', eb6b2, eb6b2', eb6b4, eb6b4', eb11b6, eb11b6', eb11b4, eb11b4', eb14b11, eb14b11', eb14b6, eb14b6', eb14b4, eb14b4', eb15b11, eb15b11', eb15b6, eb15b6', eb15b4, eb15b4', eb16b11, eb16b11', eb16b6, eb16b6', eb16b4, eb16b4', n45, n46, n56, n54, n64, n65, eb20b4, eb20b4', eb20b6, eb20b6', eb20b11, eb20b11', eb20b14, eb20b14', eb20b16, eb20b16', eb24b4, eb24b4', eb24b6, eb24b6', eb24b11, eb24b11', eb24b14, eb24b14', eb24b16, eb24b16', eb24b20, eb24b20', vb24, eb27b4, eb27b4', eb27b6, eb27b6', eb27b11, eb27b11', eb27b14, eb27b14', eb27b16, eb27b16', eb27b20, eb27b20', eb27b24, eb27b24', vb27, eb30b4, eb30b4', eb30b6, eb30b6', eb30b11, eb30b11', eb30b14, eb30b14', eb30b16, eb30b16', eb30b20, eb30b20', eb30b24, eb30b24', eb30b27, eb30b27', vb30, eb32b4, eb32b4', eb32b6, eb32b6', eb32b11, eb32b11', eb32b14, eb32b14', eb32b16, eb32b16', eb32b20, eb32b20', eb32b24, eb32b24', eb32b27, eb32b27', eb32b30, eb32b30', vb32]
  have kl' : View.le V V₇ := by
    rw [hV₇]
    repeat refine View.le_set ?_ ?_
    all_goals first | assumption | exact View.le_none kl (by assumption)
  clear hV₇ k4 k6 k11 k14 k16 k20 kl
  refine a_forget (r := [(13, iv due), (11, pt b11 0), (7, .tree 2 (chs cs)), (6, pt b6 0), (4, pt b4 0)]) ⟨rfl, rfl, rfl, rfl, rfl, trivial⟩ ?_
  refine a_seq (a_region ?_)
  refine a_v rfl (s_move (ev_t rfl)) ?_
  refine a_vp rfl (s_call Try.okF14 ev_f (.cons (ev_t rfl) .nil) (bk_back hcs _)) fun x V' hx => ?_
  obtain ⟨hx1, hVV⟩ := hx; subst hx1; have hVV := hVV.symm; subst hVV
  refine a_v rfl (s_move (ev_t rfl)) ?_
  refine a_v rfl (s_extract (ev_t rfl) rfl) ?_
  refine a_v rfl (s_extract (ev_t rfl) rfl) ?_
  refine a_v rfl (s_assign (ev_t rfl)) ?_
  refine a_v rfl (s_assign (ev_t rfl)) ?_
  refine a_nil ?_
  refine a_seq (a_seq (a_region ?_))
  refine a_v rfl (s_move (ev_t rfl)) ?_
  refine a_v rfl (s_cmp (ev_t rfl) ev_c rfl) ?_
  refine a_v rfl (s_move (ev_t rfl)) ?_
  refine a_f rfl (f_guard rfl (gd_b rfl (ev_t rfl)) fun h2 => s_move (ev_t rfl)) ?_
  refine a_f rfl (f_guard rfl (gd_b rfl (ev_t rfl)) fun h2 => s_lent Try.us50 (ev_cond (ev_t rfl) h2)) ?_
  refine a_f rfl (f_guard rfl (gd_b rfl (ev_t rfl)) fun h2 => s_move (ev_t rfl)) ?_
  refine a_f rfl (f_guard rfl (gd_b rfl (ev_t rfl)) fun h2 => s_lent Try.us50 (ev_cond (ev_t rfl) h2)) ?_
  refine a_f rfl (f_guard rfl (gd_b rfl (ev_t rfl)) fun h2 => s_cmp (ev_cond (ev_t rfl) h2) (ev_cond (ev_t rfl) h2) rfl) ?_
  refine a_v rfl (s_pickor (ev_t rfl) (ev_t rfl)) ?_
  refine a_nil ?_
  refine a_cond (ev_t rfl) (fun hc => ?_) (fun hc => a_skip ?_)
  · exfalso; simp [chs_len, backC_len] at hc
  refine a_seq (a_seq (a_region ?_))
  refine a_v rfl (s_move (ev_t rfl)) ?_
  refine a_v rfl (s_lent Try.us50 (ev_t rfl)) ?_
  refine a_v rfl (s_move ev_c) ?_
  refine a_nil ?_
  refine a_block ?_
  refine a_loop (fun n st V₈ => ∃ (i : Nat) (l : List (Nat × AVal)), n = cs.length - i ∧ i ≤ cs.length ∧ st = ⟨l, 431⟩ ∧ SubT [(295, iv i), (294, iv (chs (backC cs)).length), (293, .tree 2 (chs (backC cs))), (34, .tree 2 (chs (backC cs))), (13, iv due), (11, pt b11 0), (7, .tree 2 (chs cs)), (6, pt b6 0), (4, pt b4 0)] l ∧ View.le V₇ V₈) ?_ cs.length _ _
    ⟨0, _, rfl, by omega, rfl, ⟨rfl, rfl, rfl, rfl, rfl, rfl, rfl, rfl, rfl, trivial⟩, View.le_refl _⟩
  rintro n st V₈ ⟨i, l, rfl, hi, rfl, hs, hV₈⟩
  refine a_forget hs (a_weaken hV₈ ?_)
  refine a_seq (a_region ?_)
  refine a_v rfl (s_cmp (ev_t rfl) (ev_t rfl) rfl) ?_
  refine a_nil ?_
  refine a_seq (a_cond (ev_t rfl) (fun hc => a_skip ?_) (fun hc => a_exit ?_))
  · have hi' : i < cs.length := by simp [chs_len, backC_len] at hc; omega
    have hib : i < (backC cs).length := by rw [backC_len]; exact hi'
    have hbi : (backC cs)[i] = ((cs[cs.length - 1 - i]).1, -(cs[cs.length - 1 - i]).2) := by
      have := backC_get hi'
      rw [List.getElem?_eq_getElem hib] at this
      exact Option.some.inj this
    have hk := hcs.get (i := cs.length - 1 - i) (by omega)
    have hcl := hcs.1
    have hcn := chs_len cs
    refine a_seq (a_block ?_)
    refine a_seq (a_region ?_)
    refine a_v rfl (s_move (ev_t rfl)) ?_
    refine a_v rfl (s_idxt Try.sl50 (ev_t rfl) (ev_t rfl) (by omega) (chs_get hib)) ?_
    refine a_v rfl (s_loadr Try.sh52 rfl (ev_t rfl) (ref2 _ _)) ?_
    refine a_vp rfl (s_alloc Try.z52) fun x V' hx => ?_
    obtain ⟨b36, nb36, rfl, rfl⟩ := hx
    have eb36b4 : ¬ b36 = b4 := by rintro rfl; simp [View.set, k4', k6', k11', eb11b6, eb11b6', eb11b4, eb11b4', eb6b4, eb6b4'] at nb36
    have eb36b4' : ¬ b4 = b36 := fun h => eb36b4 h.symm
    have eb36b6 : ¬ b36 = b6 := by rintro rfl; simp [View.set, k4', k6', k11', eb11b6, eb11b6', eb11b4, eb11b4', eb6b4, eb6b4', eb36b4, eb36b4'] at nb36
    have eb36b6' : ¬ b6 = b36 := fun h => eb36b6 h.symm
    have eb36b11 : ¬ b36 = b11 := by rintro rfl; simp [View.set, k4', k6', k11', eb11b6, eb11b6', eb11b4, eb11b4', eb6b4, eb6b4', eb36b4, eb36b4', eb36b6, eb36b6'] at nb36
    have eb36b11' : ¬ b11 = b36 := fun h => eb36b11 h.symm
    have vb36 : V₇ b36 = none := by simpa [View.set, k4', k6', k11', eb11b6, eb11b6', eb11b4, eb11b4', eb6b4, eb6b4', eb36b4, eb36b4', eb36b6, eb36b6', eb36b11, eb36b11'] using nb36
    refine a_v rfl (s_assign (ev_t rfl)) ?_
    refine a_s (s_storew Try.sh52 (ev_t rfl) (ev_t rfl) (by simp [View.set, View.drop, k4', k6', k11', eb11b6, eb11b6', eb11b4, eb11b4', eb6b4, eb6b4', eb36b4, eb36b4', eb36b6, eb36b6', eb36b11, eb36b11', vb36] <;> first | exact ⟨rfl, rfl⟩ | exact rfl) rfl rfl (by first | decide | (simp [ints, four]; done) | (simp [ints, four]; omega)) rfl) ?_
    refine a_nil ?_
    refine a_seq (a_region ?_)
    refine a_v rfl (s_move (ev_t rfl)) ?_
    refine a_v rfl (s_move (ev_t rfl)) ?_
    refine a_v rfl (s_lent Try.us50 (ev_t rfl)) ?_
    refine a_v rfl (s_sub (ev_t rfl) ev_c (by omega) (by omega)) ?_
    refine a_v rfl (s_move (ev_t rfl)) ?_
    refine a_v rfl (s_sub (ev_t rfl) (ev_t rfl) (by omega) (by omega)) ?_
    refine a_v rfl (s_idxt Try.sl50 (ev_t rfl) (ev_t rfl) (by omega) (chs_getr hi')) ?_
    refine a_v rfl (s_loadr Try.sh52 rfl (ev_t rfl) (ref2 _ _)) ?_
    refine a_vp rfl (s_alloc Try.z52) fun x V' hx => ?_
    obtain ⟨b37, nb37, rfl, rfl⟩ := hx
    have eb37b4 : ¬ b37 = b4 := by rintro rfl; simp [View.set, k4', k6', k11', eb11b6, eb11b6', eb11b4, eb11b4', eb6b4, eb6b4', eb36b4, eb36b4', eb36b6, eb36b6', eb36b11, eb36b11', vb36] at nb37
    have eb37b4' : ¬ b4 = b37 := fun h => eb37b4 h.symm
    have eb37b6 : ¬ b37 = b6 := by rintro rfl; simp [View.set, k4', k6', k11', eb11b6, eb11b6', eb11b4, eb11b4', eb6b4, eb6b4', eb36b4, eb36b4', eb36b6, eb36b6', eb36b11, eb36b11', vb36, eb37b4, eb37b4'] at nb37
    have eb37b6' : ¬ b6 = b37 := fun h => eb37b6 h.symm
    have eb37b11 : ¬ b37 = b11 := by rintro rfl; simp [View.set, k4', k6', k11', eb11b6, eb11b6', eb11b4, eb11b4', eb6b4, eb6b4', eb36b4, eb36b4', eb36b6, eb36b6', eb36b11, eb36b11', vb36, eb37b4, eb37b4', eb37b6, eb37b6'] at nb37
    have eb37b11' : ¬ b11 = b37 := fun h => eb37b11 h.symm
    have eb37b36 : ¬ b37 = b36 := by rintro rfl; simp [View.set, k4', k6', k11', eb11b6, eb11b6', eb11b4, eb11b4', eb6b4, eb6b4', eb36b4, eb36b4', eb36b6, eb36b6', eb36b11, eb36b11', vb36, eb37b4, eb37b4', eb37b6, eb37b6', eb37b11, eb37b11'] at nb37
    have eb37b36' : ¬ b36 = b37 := fun h => eb37b36 h.symm
    have vb37 : V₇ b37 = none := by simpa [View.set, k4', k6', k11', eb11b6, eb11b6', eb11b4, eb11b4', eb6b4, eb6b4', eb36b4, eb36b4', eb36b6, eb36b6', eb36b11, eb36b11', vb36, eb37b4, eb37b4', eb37b6, eb37b6', eb37b11, eb37b11', eb37b36, eb37b36'] using nb37
    refine a_s (s_storew Try.sh52 (ev_t rfl) (ev_t rfl) (by simp [View.set, View.drop, k4', k6', k11', eb11b6, eb11b6', eb11b4, eb11b4', eb6b4, eb6b4', eb36b4, eb36b4', eb36b6, eb36b6', eb36b11, eb36b11', vb36, eb37b4, eb37b4', eb37b6, eb37b6', eb37b11, eb37b11', eb37b36, eb37b36', vb37] <;> first | exact ⟨rfl, rfl⟩ | exact rfl) rfl rfl (by first | decide | (simp [ints, four]; done) | (simp [ints, four]; omega)) rfl) ?_
    refine a_nil ?_
    refine a_seq (a_region ?_)
    refine a_v rfl (s_fieldAddr Try.f52_0 rfl (ev_t rfl)) ?_
    refine a_v rfl (s_load Try.sh3 (ev_t rfl) (by simp [View.set, View.drop, k4', k6', k11', eb11b6, eb11b6', eb11b4, eb11b4', eb6b4, eb6b4', eb36b4, eb36b4', eb36b6, eb36b6', eb36b11, eb36b11', vb36, eb37b4, eb37b4', eb37b6, eb37b6', eb37b11, eb37b11', eb37b36, eb37b36', vb37] <;> first | exact ⟨rfl, rfl⟩ | exact rfl) rfl) ?_
    refine a_v rfl (s_fieldAddr Try.f52_0 rfl (ev_t rfl)) ?_
    refine a_v rfl (s_load Try.sh3 (ev_t rfl) (by simp [View.set, View.drop, k4', k6', k11', eb11b6, eb11b6', eb11b4, eb11b4', eb6b4, eb6b4', eb36b4, eb36b4', eb36b6, eb36b6', eb36b11, eb36b11', vb36, eb37b4, eb37b4', eb37b6, eb37b6', eb37b11, eb37b11', eb37b36, eb37b36', vb37] <;> first | exact ⟨rfl, rfl⟩ | exact rfl) rfl) ?_
    refine a_v rfl (s_cmp (ev_t rfl) (ev_t rfl) rfl) ?_
    refine a_v rfl (s_move (ev_t rfl)) ?_
    refine a_f rfl (f_guard rfl (gd_b rfl (ev_t rfl)) fun h5 => s_fieldAddr Try.f52_1 rfl (ev_t rfl)) ?_
    refine a_f rfl (f_guard rfl (gd_b rfl (ev_t rfl)) fun h5 => s_load Try.sh3 (ev_cond (ev_t rfl) h5) (by simp [View.set, View.drop, k4', k6', k11', eb11b6, eb11b6', eb11b4, eb11b4', eb6b4, eb6b4', eb36b4, eb36b4', eb36b6, eb36b6', eb36b11, eb36b11', vb36, eb37b4, eb37b4', eb37b6, eb37b6', eb37b11, eb37b11', eb37b36, eb37b36', vb37] <;> first | exact ⟨rfl, rfl⟩ | exact rfl) rfl) ?_
    refine a_f rfl (f_guard rfl (gd_b rfl (ev_t rfl)) fun h5 => s_fieldAddr Try.f52_1 rfl (ev_t rfl)) ?_
    refine a_f rfl (f_guard rfl (gd_b rfl (ev_t rfl)) fun h5 => s_load Try.sh3 (ev_cond (ev_t rfl) h5) (by simp [View.set, View.drop, k4', k6', k11', eb11b6, eb11b6', eb11b4, eb11b4', eb6b4, eb6b4', eb36b4, eb36b4', eb36b6, eb36b6', eb36b11, eb36b11', vb36, eb37b4, eb37b4', eb37b6, eb37b6', eb37b11, eb37b11', eb37b36, eb37b36', vb37] <;> first | exact ⟨rfl, rfl⟩ | exact rfl) rfl) ?_
    refine a_f rfl (f_guard rfl (gd_b rfl (ev_t rfl)) fun h5 => s_neg64 (ev_cond (ev_t rfl) h5) hk.2.1 hk.2.2) ?_
    refine a_f rfl (f_guard rfl (gd_b rfl (ev_t rfl)) fun h5 => s_cmp (ev_cond (ev_t rfl) h5) (ev_cond (ev_t rfl) h5) rfl) ?_
    refine a_v rfl (s_pickor (ev_t rfl) (ev_t rfl)) ?_
    refine a_nil ?_
    refine a_cond (ev_t rfl) (fun hc => ?_) (fun hc => a_skip ?_)
    · exfalso; simp [hbi] at hc
    refine a_region ?_
    refine a_v rfl (s_add (ev_t rfl) ev_c (by omega) (by omega)) ?_
    refine a_v rfl (s_move (ev_t rfl)) ?_
    refine a_nil ?_
    refine ⟨cs.length - (i + 1), by omega, i + 1, _, rfl, by omega, rfl, ⟨rfl, rfl, rfl, rfl, rfl, rfl, rfl, rfl, rfl, trivial⟩, ?_⟩
    repeat refine View.le_set ?_ ?_
    all_goals first | exact View.le_refl _ | assumption
  repeat first | refine thenA_x ?_ | refine blockA_hit ?_ | refine blockA_x (by decide) ?_
  refine a_forget (r := [(34, .tree 2 (chs (backC cs))), (13, iv due), (11, pt b11 0), (7, .tree 2 (chs cs)), (6, pt b6 0), (4, pt b4 0)]) ⟨rfl, rfl, rfl, rfl, rfl, rfl, trivial⟩ ?_
  clear hs hc hV₈
  refine a_seq (a_seq (a_region ?_))
  refine a_v rfl (s_move (ev_t rfl)) ?_
  refine a_v rfl (s_cmp (ev_t rfl) ev_c rfl) ?_
  refine a_nil ?_
  refine a_cut1 (fun st V₈ => ∃ (l : List (Nat × AVal)), st = ⟨l, 431⟩ ∧ SubT [(11, pt b11 0), (6, pt b6 0), (4, pt b4 0)] l ∧ V₈ b4 = some (.row (ints (four zf))) ∧ V₈ b6 = some (.row (bk nn (third nn))) ∧ V₈ b11 = some (.row (bk A' S')) ∧ View.le V V₈) ?_ ?_
  · refine a_cond (ev_t rfl) (fun hd => ?_) (fun hd => a_skip ?_)
    rotate_left
    · exact ⟨_, rfl, ⟨rfl, rfl, rfl, trivial⟩, k4', k6', k11', kl'⟩
    obtain ⟨hA', hS', hF0⟩ := hdue (by simpa using hd)
    have hgall : ∀ i, i ≤ cs.length → goodW nn (run (third nn) cs i) := fun i hi => firstF_good hcs cs.length 0 (fun k hk => by have := hb k hk; exact ⟨this.2.2.1, this.2.2.2⟩) hF0 (by omega) i (by omega) (by omega)
    have hbackS := steps_back hgall
    rw [hW] at hbackS
    have hgW : goodW nn W := by rw [← hW]; exact hgall _ (Nat.le_refl _)
    have hbW : okB nn W := fun k hk => by have h1 := hgW k hk; have h2 := hn k; omega
    have hsW : small W := fun k => by
      by_cases hk : k < 4
      · have h1 := hgW k hk; have h2 := hn k; omega
      · rw [← hW, run_out hcs (by omega) _ (Nat.le_refl _)]; exact hsm k
    rw [hA', hS'] at k11'
    refine a_seq (a_region ?_)
    refine a_v rfl (s_load Try.sh49 (ev_t rfl) (by simp [View.set, View.drop, k4', k6', k11', eb11b6, eb11b6', eb11b4, eb11b4', eb6b4, eb6b4'] <;> first | exact ⟨rfl, rfl⟩ | exact rfl) bkA) ?_
    refine a_v rfl (s_move (ev_t rfl)) ?_
    refine a_vp rfl (s_call Try.okF10 ev_f (.cons (ev_t rfl) (.cons (ev_t rfl) .nil)) (bk_steps hbW hsW (okC_back hcs) _)) fun x V' hx => ?_
    obtain ⟨hx1, hVV⟩ := hx; rw [hbackS] at hx1; subst hx1; have hVV := hVV.symm; subst hVV
    refine a_v rfl (s_move (ev_t rfl)) ?_
    refine a_v rfl (s_extract (ev_t rfl) rfl) ?_
    refine a_v rfl (s_extract (ev_t rfl) rfl) ?_
    refine a_v rfl (s_extract (ev_t rfl) rfl) ?_
    refine a_vp rfl (s_alloc Try.z49) fun x V' hx => ?_
    obtain ⟨b38, nb38, rfl, rfl⟩ := hx
    have eb38b4 : ¬ b38 = b4 := by rintro rfl; simp [View.set, k4', k6', k11', eb11b6, eb11b6', eb11b4, eb11b4', eb6b4, eb6b4'] at nb38
    have eb38b4' : ¬ b4 = b38 := fun h => eb38b4 h.symm
    have eb38b6 : ¬ b38 = b6 := by rintro rfl; simp [View.set, k4', k6', k11', eb11b6, eb11b6', eb11b4, eb11b4', eb6b4, eb6b4', eb38b4, eb38b4'] at nb38
    have eb38b6' : ¬ b6 = b38 := fun h => eb38b6 h.symm
    have eb38b11 : ¬ b38 = b11 := by rintro rfl; simp [View.set, k4', k6', k11', eb11b6, eb11b6', eb11b4, eb11b4', eb6b4, eb6b4', eb38b4, eb38b4', eb38b6, eb38b6'] at nb38
    have eb38b11' : ¬ b11 = b38 := fun h => eb38b11 h.symm
    have vb38 : V₇ b38 = none := by simpa [View.set, k4', k6', k11', eb11b6, eb11b6', eb11b4, eb11b4', eb6b4, eb6b4', eb38b4, eb38b4', eb38b6, eb38b6', eb38b11, eb38b11'] using nb38
    refine a_s (s_storew Try.sh49 (ev_t rfl) (ev_t rfl) (by simp [View.set, View.drop, k4', k6', k11', eb11b6, eb11b6', eb11b4, eb11b4', eb6b4, eb6b4', eb38b4, eb38b4', eb38b6, eb38b6', eb38b11, eb38b11', vb38] <;> first | exact ⟨rfl, rfl⟩ | exact rfl) rfl rfl (by first | decide | (simp [ints, four]; done) | (simp [ints, four]; omega)) (wrBA (L := zf) (U := zf))) ?_
    refine a_v rfl (s_assign (ev_t rfl)) ?_
    refine a_v rfl (s_assign (ev_t rfl)) ?_
    refine a_nil ?_
    refine a_seq (a_region ?_)
    refine a_v rfl (s_load Try.sh49 (ev_t rfl) (by simp [View.set, View.drop, k4', k6', k11', eb11b6, eb11b6', eb11b4, eb11b4', eb6b4, eb6b4', eb38b4, eb38b4', eb38b6, eb38b6', eb38b11, eb38b11', vb38] <;> first | exact ⟨rfl, rfl⟩ | exact rfl) bkA) ?_
    refine a_v rfl (s_load Try.sh49 (ev_t rfl) (by simp [View.set, View.drop, k4', k6', k11', eb11b6, eb11b6', eb11b4, eb11b4', eb6b4, eb6b4', eb38b4, eb38b4', eb38b6, eb38b6', eb38b11, eb38b11', vb38] <;> first | exact ⟨rfl, rfl⟩ | exact rfl) bkA) ?_
    refine a_v rfl (s_neqbk (ev_t rfl) (ev_t rfl)) ?_
    refine a_v rfl (s_move (ev_t rfl)) ?_
    refine a_f rfl (f_guard rfl (gd_b rfl (ev_t rfl)) fun h3 => s_move (ev_t rfl)) ?_
    refine a_f rfl (f_guard rfl (gd_b rfl (ev_t rfl)) fun h3 => s_cmp (ev_cond (ev_t rfl) h3) ev_c rfl) ?_
    refine a_v rfl (s_pickor (ev_t rfl) (ev_t rfl)) ?_
    refine a_v rfl (s_move (ev_t rfl)) ?_
    refine a_f rfl (f_guard rfl (gd_b rfl (ev_t rfl)) fun h7 => s_move (ev_t rfl)) ?_
    refine a_f rfl (f_guard rfl (gd_b rfl (ev_t rfl)) fun h7 => s_cmp (ev_cond (ev_t rfl) h7) ev_c rfl) ?_
    refine a_v rfl (s_pickor (ev_t rfl) (ev_t rfl)) ?_
    refine a_nil ?_
    refine a_cond (ev_t rfl) (fun hc => ?_) (fun hc => a_skip ?_)
    · exfalso; simp at hc
    exact ⟨_, rfl, ⟨rfl, rfl, rfl, trivial⟩, by simp [View.set, k4', k6', k11', eb11b6, eb11b6', eb11b4, eb11b4', eb6b4, eb6b4', eb38b4, eb38b4', eb38b6, eb38b6', eb38b11, eb38b11', vb38], by simp [View.set, k4', k6', k11', eb11b6, eb11b6', eb11b4, eb11b4', eb6b4, eb6b4', eb38b4, eb38b4', eb38b6, eb38b6', eb38b11, eb38b11', vb38], by simp [View.set, hA', hS', k4', k6', k11', eb11b6, eb11b6', eb11b4, eb11b4', eb6b4, eb6b4', eb38b4, eb38b4', eb38b6, eb38b6', eb38b11, eb38b11', vb38], View.le_set (View.le_set kl' (View.le_none kl' vb38)) (View.le_none kl' vb38)⟩
  clear k4' k6' k11' kl'
  rintro st V₈ ⟨l, rfl, hs, k4, k6, k11, kl⟩
  refine a_forget hs ?_
  refine a_seq (a_seq (a_region ?_))
  refine a_v rfl (s_assign ev_c) ?_
  refine a_nil ?_
  refine a_block ?_
  refine a_loop (fun n st V₉ => ∃ (j : Nat) (l : List (Nat × AVal)), n = 6 - j ∧ j ≤ 6 ∧ st = ⟨l, 431⟩ ∧ SubT [(41, iv ((j : Int) - 1)), (11, pt b11 0), (6, pt b6 0), (4, pt b4 0)] l ∧ View.le V₈ V₉) ?_ 6 _ _
    ⟨0, _, rfl, by omega, rfl, ⟨rfl, rfl, rfl, rfl, trivial⟩, View.le_refl _⟩
  clear hs
  rintro n st V₉ ⟨j, l, rfl, hj, rfl, hs, hV₉⟩
  refine a_forget hs (a_weaken hV₉ ?_)
  refine a_seq (a_seq (a_region ?_))
  refine a_v rfl (s_move (ev_t rfl)) ?_
  refine a_v rfl (s_cmp (ev_t rfl) ev_c rfl) ?_
  refine a_nil ?_
  refine a_cond (ev_t rfl) (fun hc => a_skip ?_) (fun hc => a_exit ?_)
  · have hj' : j < 6 := by simp at hc; omega
    have hnj := hn (j - 1)
    have hsj := hsm (j - 1)
    obtain ⟨r, e, hroom, hr1, hr2⟩ := roomF_eq nn (third nn) ((j : Int) - 1)
    obtain ⟨A₃, U₃, f, hlim, hf1, hf2, hf3⟩ := limF_eq nn (third nn) ((j : Int) - 1)
    have ht : ((j : Int) - 1).toNat = j - 1 := by omega
    rw [ht] at hr1 hf2 hf3
    refine a_cut (fun st V₉ => ∃ (l : List (Nat × AVal)), st = ⟨l, 431⟩ ∧ SubT [(41, iv ((j : Int) - 1)), (11, pt b11 0), (6, pt b6 0), (4, pt b4 0)] l ∧ View.le V₈ V₉) ?_ ?_
    rotate_left
    · clear hs
      rintro st V₁ ⟨l, rfl, hs, hle⟩
      refine a_forget hs ?_
      refine a_region ?_
      refine a_v rfl (s_move (ev_t rfl)) ?_
      refine a_v rfl (s_add (ev_t rfl) ev_c (by omega) (by omega)) ?_
      refine a_v rfl (s_assign (ev_t rfl)) ?_
      refine a_nil ?_
      exact ⟨6 - (j + 1), by omega, j + 1, _, rfl, by omega, rfl, ⟨by simp [List.lookup], rfl, rfl, rfl, trivial⟩, hle⟩
    refine a_block ?_
    refine a_seq (a_region ?_)
    refine a_v rfl (s_load Try.sh49 (ev_t rfl) (by simp [View.set, View.drop, k4, k6, k11, eb11b6, eb11b6', eb11b4, eb11b4', eb6b4, eb6b4'] <;> first | exact ⟨rfl, rfl⟩ | exact rfl) bkA) ?_
    refine a_v rfl (s_move (ev_t rfl)) ?_
    refine a_vp rfl (s_call Try.okF15 ev_f (.cons (ev_t rfl) (.cons (ev_t rfl) .nil)) (bk_room hb6 _ _)) fun x V' hx => ?_
    obtain ⟨hx1, hVV⟩ := hx; rw [hroom] at hx1; subst hx1; have hVV := hVV.symm; subst hVV
    refine a_v rfl (s_move (ev_t rfl)) ?_
    refine a_v rfl (s_extract (ev_t rfl) rfl) ?_
    refine a_v rfl (s_extract (ev_t rfl) rfl) ?_
    refine a_v rfl (s_assign (ev_t rfl)) ?_
    refine a_v rfl (s_assign (ev_t rfl)) ?_
    refine a_nil ?_
    refine a_seq (a_region ?_)
    refine a_v rfl (s_load Try.sh49 (ev_t rfl) (by simp [View.set, View.drop, k4, k6, k11, eb11b6, eb11b6', eb11b4, eb11b4', eb6b4, eb6b4'] <;> first | exact ⟨rfl, rfl⟩ | exact rfl) bkA) ?_
    refine a_v rfl (s_move (ev_t rfl)) ?_
    refine a_vp rfl (s_call Try.okF16 ev_f (.cons (ev_t rfl) (.cons (ev_t rfl) (.cons ev_c .nil))) (bk_limit hb6 _ _)) fun x V' hx => ?_
    obtain ⟨hx1, hVV⟩ := hx; rw [hlim] at hx1; subst hx1; have hVV := hVV.symm; subst hVV
    refine a_v rfl (s_move (ev_t rfl)) ?_
    refine a_v rfl (s_extract (ev_t rfl) rfl) ?_
    refine a_v rfl (s_extract (ev_t rfl) rfl) ?_
    refine a_vp rfl (s_alloc Try.z49) fun x V' hx => ?_
    obtain ⟨b44, nb44, rfl, rfl⟩ := hx
    have eb44b4 : ¬ b44 = b4 := by rintro rfl; simp [View.set, k4, k6, k11, eb11b6, eb11b6', eb11b4, eb11b4', eb6b4, eb6b4'] at nb44
    have eb44b4' : ¬ b4 = b44 := fun h => eb44b4 h.symm
    have eb44b6 : ¬ b44 = b6 := by rintro rfl; simp [View.set, k4, k6, k11, eb11b6, eb11b6', eb11b4, eb11b4', eb6b4, eb6b4', eb44b4, eb44b4'] at nb44
    have eb44b6' : ¬ b6 = b44 := fun h => eb44b6 h.symm
    have eb44b11 : ¬ b44 = b11 := by rintro rfl; simp [View.set, k4, k6, k11, eb11b6, eb11b6', eb11b4, eb11b4', eb6b4, eb6b4', eb44b4, eb44b4', eb44b6, eb44b6'] at nb44
    have eb44b11' : ¬ b11 = b44 := fun h => eb44b11 h.symm
    have vb44 : V₈ b44 = none := by simpa [View.set, k4, k6, k11, eb11b6, eb11b6', eb11b4, eb11b4', eb6b4, eb6b4', eb44b4, eb44b4', eb44b6, eb44b6', eb44b11, eb44b11'] using nb44
    refine a_s (s_storew Try.sh49 (ev_t rfl) (ev_t rfl) (by simp [View.set, View.drop, k4, k6, k11, eb11b6, eb11b6', eb11b4, eb11b4', eb6b4, eb6b4', eb44b4, eb44b4', eb44b6, eb44b6', eb44b11, eb44b11', vb44] <;> first | exact ⟨rfl, rfl⟩ | exact rfl) rfl rfl (by first | decide | (simp [ints, four]; done) | (simp [ints, four]; omega)) (wrBA (L := zf) (U := zf))) ?_
    refine a_v rfl (s_assign (ev_t rfl)) ?_
    refine a_nil ?_
    refine a_block ?_
    refine a_seq (a_region ?_)
    refine a_v rfl (s_move (ev_t rfl)) ?_
    refine a_v rfl (s_cmp (ev_t rfl) ev_c rfl) ?_
    refine a_v rfl (s_move (ev_t rfl)) ?_
    refine a_f rfl (f_guard rfl (gd_b rfl (ev_t rfl)) fun h2 => s_move (ev_t rfl)) ?_
    refine a_f rfl (f_guard rfl (gd_b rfl (ev_t rfl)) fun h2 => s_cmp (ev_cond (ev_t rfl) h2) ev_c rfl) ?_
    refine a_v rfl (s_pickor (ev_t rfl) (ev_t rfl)) ?_
    refine a_v rfl (s_assign (ev_t rfl)) ?_
    refine a_nil ?_
    refine a_cond (ev_t rfl) (fun h1 => ?_) (fun h1 => ?_)
    · have hout : ¬ (0 ≤ (j : Int) - 1 ∧ (j : Int) - 1 < 4) := by simp at h1; omega
      have he := hr2 hout
      have hf := hf1 hout
      refine a_seq (a_region ?_)
      refine a_v rfl (s_move (ev_t rfl)) ?_
      refine a_v rfl (s_cmp (ev_t rfl) ev_c rfl) ?_
      refine a_v rfl (s_move (ev_t rfl)) ?_
      refine a_f rfl (f_guard rfl (gd_b rfl (ev_t rfl)) fun h2 => s_move (ev_t rfl)) ?_
      refine a_f rfl (f_guard rfl (gd_b rfl (ev_t rfl)) fun h2 => s_cmp (ev_cond (ev_t rfl) h2) ev_c rfl) ?_
      refine a_v rfl (s_pickor (ev_t rfl) (ev_t rfl)) ?_
      refine a_nil ?_
      refine a_cond (ev_t rfl) (fun h2 => ?_) (fun h2 => a_skip ?_)
      · exfalso; simp [he, hf] at h2
      exact ⟨_, rfl, ⟨rfl, rfl, rfl, rfl, trivial⟩, by
        repeat refine View.le_set ?_ ?_
        all_goals first | exact View.le_refl _ | assumption⟩
    have hin : 0 ≤ (j : Int) - 1 ∧ (j : Int) - 1 < 4 := by simp at h1; omega
    obtain ⟨hr, he⟩ := hr1 hin
    have hj4 : j - 1 < 4 := by omega
    refine a_seq (a_region ?_)
    refine a_v rfl (s_move (ev_t rfl)) ?_
    refine a_v rfl (s_fieldAddr Try.f49_1 rfl (ev_t rfl)) ?_
    refine a_v rfl (s_idxa Try.ar24 (ev_t rfl) (ev_t rfl) (by omega) (by omega)) ?_
    refine a_v rfl (s_load Try.sh3 (ev_t rfl) (by simp [View.set, View.drop, k4, k6, k11, eb11b6, eb11b6', eb11b4, eb11b4', eb6b4, eb6b4', eb44b4, eb44b4', eb44b6, eb44b6', eb44b11, eb44b11', vb44] <;> first | exact ⟨rfl, rfl⟩ | exact rfl) (bkU hj4 (by omega))) ?_
    refine a_v rfl (s_cmp (ev_t rfl) ev_c rfl) ?_
    refine a_v rfl (s_assign (ev_t rfl)) ?_
    refine a_nil ?_
    refine a_cond (ev_t rfl) (fun h2 => ?_) (fun h2 => ?_)
    · have h40 : 40 < third nn (j - 1) := by simpa using h2
      have hf := hf2 hin h40
      refine a_seq (a_draw [false, false, false, false, false, false, false, false, false, false, false, false, false, false, false, false, false, false, false] (_) Try.mixed rfl rfl (View.le_refl _) ?_)
      refine d_v (fun V' hU => f_plain rfl (s_move (ev_o rfl rfl))) ?_
      refine d_v (fun V' hU => f_plain rfl (s_cmp (ev_o rfl rfl) ev_c rfl)) ?_
      refine d_v (fun V' hU => f_plain rfl (s_move (ev_o rfl rfl))) ?_
      refine d_v (fun V' hU => f_guard rfl (gd_b rfl (ev_o rfl rfl)) fun h2 => s_move (ev_o rfl rfl)) ?_
      refine d_v (fun V' hU => f_guard rfl (gd_b rfl (ev_o rfl rfl)) fun h2 => s_cmp (ev_cond (ev_o rfl rfl) h2) ev_c rfl) ?_
      refine d_v (fun V' hU => f_plain rfl (s_pickor (ev_o rfl rfl) (ev_o rfl rfl))) ?_
      refine d_v (fun V' hU => f_plain rfl (s_move (ev_o rfl rfl))) ?_
      refine d_v (fun V' hU => f_guard rfl (gd_b rfl (ev_o rfl rfl)) fun h6 => s_move (ev_o rfl rfl)) ?_
      refine d_v (fun V' hU => f_guard rfl (gd_b rfl (ev_o rfl rfl)) fun h6 => s_move (ev_o rfl rfl)) ?_
      refine d_v (fun V' hU => f_guard rfl (gd_b rfl (ev_o rfl rfl)) fun h6 => s_fieldAddr Try.f49_0 rfl (ev_o rfl rfl)) ?_
      refine d_v (fun V' hU => f_guard rfl (gd_b rfl (ev_o rfl rfl)) fun h6 => s_idxa Try.ar24 (ev_cond (ev_o rfl rfl) h6) (ev_cond (ev_o rfl rfl) h6) (by omega) (by omega)) ?_
      refine d_v (fun V' hU => f_guard rfl (gd_b rfl (ev_o rfl rfl)) fun h6 => s_load Try.sh3 (ev_cond (ev_o rfl rfl) h6) (hU _ _ (by simp [View.set, View.drop, k4, k6, k11, eb11b6, eb11b6', eb11b4, eb11b4', eb6b4, eb6b4', eb44b4, eb44b4', eb44b6, eb44b6', eb44b11, eb44b11', vb44] <;> first | exact ⟨rfl, rfl⟩ | exact rfl)) (bkL hj4 (by omega))) ?_
      refine d_v (fun V' hU => f_guard rfl (gd_b rfl (ev_o rfl rfl)) fun h6 => s_move (ev_o rfl rfl)) ?_
      refine d_v (fun V' hU => f_guard rfl (gd_b rfl (ev_o rfl rfl)) fun h6 => s_fieldAddr Try.f49_1 rfl (ev_o rfl rfl)) ?_
      refine d_v (fun V' hU => f_guard rfl (gd_b rfl (ev_o rfl rfl)) fun h6 => s_idxa Try.ar24 (ev_cond (ev_o rfl rfl) h6) (ev_cond (ev_o rfl rfl) h6) (by omega) (by omega)) ?_
      refine d_v (fun V' hU => f_guard rfl (gd_b rfl (ev_o rfl rfl)) fun h6 => s_load Try.sh3 (ev_cond (ev_o rfl rfl) h6) (hU _ _ (by simp [View.set, View.drop, k4, k6, k11, eb11b6, eb11b6', eb11b4, eb11b4', eb6b4, eb6b4', eb44b4, eb44b4', eb44b6, eb44b6', eb44b11, eb44b11', vb44] <;> first | exact ⟨rfl, rfl⟩ | exact rfl)) (bkU hj4 (by omega))) ?_
      refine d_v (fun V' hU => f_guard rfl (gd_b rfl (ev_o rfl rfl)) fun h6 => s_sub (ev_cond (ev_o rfl rfl) h6) (ev_cond (ev_o rfl rfl) h6) (by omega) (by omega)) ?_
      refine d_v (fun V' hU => f_guard rfl (gd_b rfl (ev_o rfl rfl)) fun h6 => s_cmp (ev_cond (ev_o rfl rfl) h6) (ev_cond (ev_o rfl rfl) h6) rfl) ?_
      refine d_v (fun V' hU => f_plain rfl (s_pickor (ev_o rfl rfl) (ev_o rfl rfl))) ?_
      refine d_nil ?_
      refine a_cond (ev_t rfl) (fun h3 => ?_) (fun h3 => a_skip ?_)
      · exfalso; simp [he, hf, hr] at h3
      exact ⟨_, rfl, ⟨rfl, rfl, rfl, rfl, trivial⟩, by
        repeat refine View.le_set ?_ ?_
        all_goals first | exact View.le_refl _ | assumption⟩
    have h40 : ¬ 40 < third nn (j - 1) := by simpa using h2
    obtain ⟨hf, hA₃, hU₃⟩ := hf3 hin h40
    subst hA₃ hU₃
    refine a_seq (a_region ?_)
    refine a_v rfl (s_load Try.sh49 (ev_t rfl) (by simp [View.set, View.drop, k4, k6, k11, eb11b6, eb11b6', eb11b4, eb11b4', eb6b4, eb6b4', eb44b4, eb44b4', eb44b6, eb44b6', eb44b11, eb44b11', vb44] <;> first | exact ⟨rfl, rfl⟩ | exact rfl) bkA) ?_
    refine a_vp rfl (s_alloc Try.z49) fun x V' hx => ?_
    obtain ⟨b46, nb46, rfl, rfl⟩ := hx
    have eb46b4 : ¬ b46 = b4 := by rintro rfl; simp [View.set, k4, k6, k11, eb11b6, eb11b6', eb11b4, eb11b4', eb6b4, eb6b4', eb44b4, eb44b4', eb44b6, eb44b6', eb44b11, eb44b11', vb44] at nb46
    have eb46b4' : ¬ b4 = b46 := fun h => eb46b4 h.symm
    have eb46b6 : ¬ b46 = b6 := by rintro rfl; simp [View.set, k4, k6, k11, eb11b6, eb11b6', eb11b4, eb11b4', eb6b4, eb6b4', eb44b4, eb44b4', eb44b6, eb44b6', eb44b11, eb44b11', vb44, eb46b4, eb46b4'] at nb46
    have eb46b6' : ¬ b6 = b46 := fun h => eb46b6 h.symm
    have eb46b11 : ¬ b46 = b11 := by rintro rfl; simp [View.set, k4, k6, k11, eb11b6, eb11b6', eb11b4, eb11b4', eb6b4, eb6b4', eb44b4, eb44b4', eb44b6, eb44b6', eb44b11, eb44b11', vb44, eb46b4, eb46b4', eb46b6, eb46b6'] at nb46
    have eb46b11' : ¬ b11 = b46 := fun h => eb46b11 h.symm
    have eb46b44 : ¬ b46 = b44 := by rintro rfl; simp [View.set, k4, k6, k11, eb11b6, eb11b6', eb11b4, eb11b4', eb6b4, eb6b4', eb44b4, eb44b4', eb44b6, eb44b6', eb44b11, eb44b11', vb44, eb46b4, eb46b4', eb46b6, eb46b6', eb46b11, eb46b11'] at nb46
    have eb46b44' : ¬ b44 = b46 := fun h => eb46b44 h.symm
    have vb46 : V₈ b46 = none := by simpa [View.set, k4, k6, k11, eb11b6, eb11b6', eb11b4, eb11b4', eb6b4, eb6b4', eb44b4, eb44b4', eb44b6, eb44b6', eb44b11, eb44b11', vb44, eb46b4, eb46b4', eb46b6, eb46b6', eb46b11, eb46b11', eb46b44, eb46b44'] using nb46
    refine a_s (s_storew Try.sh49 (ev_t rfl) (ev_t rfl) (by simp [View.set, View.drop, k4, k6, k11, eb11b6, eb11b6', eb11b4, eb11b4', eb6b4, eb6b4', eb44b4, eb44b4', eb44b6, eb44b6', eb44b11, eb44b11', vb44, eb46b4, eb46b4', eb46b6, eb46b6', eb46b11, eb46b11', eb46b44, eb46b44', vb46] <;> first | exact ⟨rfl, rfl⟩ | exact rfl) rfl rfl (by first | decide | (simp [ints, four]; done) | (simp [ints, four]; omega)) (wrBA (L := zf) (U := zf))) ?_
    refine a_nil ?_
    refine a_seq (a_region ?_)
    refine a_v rfl (s_move (ev_t rfl)) ?_
    refine a_v rfl (s_fieldAddr Try.f49_0 rfl (ev_t rfl)) ?_
    refine a_v rfl (s_idxa Try.ar24 (ev_t rfl) (ev_t rfl) (by omega) (by omega)) ?_
    refine a_s (s_storew Try.sh3 (ev_t rfl) ev_c (by simp [View.set, View.drop, k4, k6, k11, eb11b6, eb11b6', eb11b4, eb11b4', eb6b4, eb6b4', eb44b4, eb44b4', eb44b6, eb44b6', eb44b11, eb44b11', vb44, eb46b4, eb46b4', eb46b6, eb46b6', eb46b11, eb46b11', eb46b44, eb46b44', vb46] <;> first | exact ⟨rfl, rfl⟩ | exact rfl) rfl rfl (by simp [ints, four]; omega) (bkwL hj4 (by omega))) ?_
    refine a_nil ?_
    refine a_seq (a_draw [false, false, false, false, false, false, false, false, false, false, false, false, false, false, false, false, false, false, false, false, false, false, false, false] (_) Try.mixed rfl rfl (View.le_refl _) ?_)
    refine d_v (fun V' hU => f_plain rfl (s_move (ev_o rfl rfl))) ?_
    refine d_v (fun V' hU => f_plain rfl (s_cmp (ev_o rfl rfl) ev_c rfl)) ?_
    refine d_v (fun V' hU => f_plain rfl (s_move (ev_o rfl rfl))) ?_
    refine d_v (fun V' hU => f_guard rfl (gd_b rfl (ev_o rfl rfl)) fun h2 => s_load Try.sh49 (ev_o rfl rfl) (hU _ _ (by simp [View.set, View.drop, k4, k6, k11, eb11b6, eb11b6', eb11b4, eb11b4', eb6b4, eb6b4', eb44b4, eb44b4', eb44b6, eb44b6', eb44b11, eb44b11', vb44, eb46b4, eb46b4', eb46b6, eb46b6', eb46b11, eb46b11', eb46b44, eb46b44', vb46] <;> first | exact ⟨rfl, rfl⟩ | exact rfl)) bkA) ?_
    refine d_v (fun V' hU => f_guard rfl (gd_b rfl (ev_o rfl rfl)) fun h2 => s_load Try.sh49 (ev_o rfl rfl) (hU _ _ (by simp [View.set, View.drop, k4, k6, k11, eb11b6, eb11b6', eb11b4, eb11b4', eb6b4, eb6b4', eb44b4, eb44b4', eb44b6, eb44b6', eb44b11, eb44b11', vb44, eb46b4, eb46b4', eb46b6, eb46b6', eb46b11, eb46b11', eb46b44, eb46b44', vb46] <;> first | exact ⟨rfl, rfl⟩ | exact rfl)) bkA) ?_
    refine d_v (fun V' hU => f_guard rfl (gd_b rfl (ev_o rfl rfl)) fun h2 => s_neqbk (ev_cond (ev_o rfl rfl) h2) (ev_cond (ev_o rfl rfl) h2)) ?_
    refine d_v (fun V' hU => f_plain rfl (s_pickor (ev_o rfl rfl) (ev_o rfl rfl))) ?_
    refine d_v (fun V' hU => f_plain rfl (s_move (ev_o rfl rfl))) ?_
    refine d_v (fun V' hU => f_guard rfl (gd_b rfl (ev_o rfl rfl)) fun h7 => s_move (ev_o rfl rfl)) ?_
    refine d_v (fun V' hU => f_guard rfl (gd_b rfl (ev_o rfl rfl)) fun h7 => s_cmp (ev_cond (ev_o rfl rfl) h7) ev_c rfl) ?_
    refine d_v (fun V' hU => f_plain rfl (s_pickor (ev_o rfl rfl) (ev_o rfl rfl))) ?_
    refine d_v (fun V' hU => f_plain rfl (s_move (ev_o rfl rfl))) ?_
    refine d_v (fun V' hU => f_guard rfl (gd_b rfl (ev_o rfl rfl)) fun h11 => s_move (ev_o rfl rfl)) ?_
    refine d_v (fun V' hU => f_guard rfl (gd_b rfl (ev_o rfl rfl)) fun h11 => s_move (ev_o rfl rfl)) ?_
    refine d_v (fun V' hU => f_guard rfl (gd_b rfl (ev_o rfl rfl)) fun h11 => s_fieldAddr Try.f49_0 rfl (ev_o rfl rfl)) ?_
    refine d_v (fun V' hU => f_guard rfl (gd_b rfl (ev_o rfl rfl)) fun h11 => s_idxa Try.ar24 (ev_cond (ev_o rfl rfl) h11) (ev_cond (ev_o rfl rfl) h11) (by omega) (by omega)) ?_
    refine d_v (fun V' hU => f_guard rfl (gd_b rfl (ev_o rfl rfl)) fun h11 => s_load Try.sh3 (ev_cond (ev_o rfl rfl) h11) (hU _ _ (by simp [View.set, View.drop, k4, k6, k11, eb11b6, eb11b6', eb11b4, eb11b4', eb6b4, eb6b4', eb44b4, eb44b4', eb44b6, eb44b6', eb44b11, eb44b11', vb44, eb46b4, eb46b4', eb46b6, eb46b6', eb46b11, eb46b11', eb46b44, eb46b44', vb46] <;> first | exact ⟨rfl, rfl⟩ | exact rfl)) (bkL hj4 (by omega))) ?_
    refine d_v (fun V' hU => f_guard rfl (gd_b rfl (ev_o rfl rfl)) fun h11 => s_move (ev_o rfl rfl)) ?_
    refine d_v (fun V' hU => f_guard rfl (gd_b rfl (ev_o rfl rfl)) fun h11 => s_fieldAddr Try.f49_1 rfl (ev_o rfl rfl)) ?_
    refine d_v (fun V' hU => f_guard rfl (gd_b rfl (ev_o rfl rfl)) fun h11 => s_idxa Try.ar24 (ev_cond (ev_o rfl rfl) h11) (ev_cond (ev_o rfl rfl) h11) (by omega) (by omega)) ?_
    refine d_v (fun V' hU => f_guard rfl (gd_b rfl (ev_o rfl rfl)) fun h11 => s_load Try.sh3 (ev_cond (ev_o rfl rfl) h11) (hU _ _ (by simp [View.set, View.drop, k4, k6, k11, eb11b6, eb11b6', eb11b4, eb11b4', eb6b4, eb6b4', eb44b4, eb44b4', eb44b6, eb44b6', eb44b11, eb44b11', vb44, eb46b4, eb46b4', eb46b6, eb46b6', eb46b11, eb46b11', eb46b44, eb46b44', vb46] <;> first | exact ⟨rfl, rfl⟩ | exact rfl)) (bkU hj4 (by omega))) ?_
    refine d_v (fun V' hU => f_guard rfl (gd_b rfl (ev_o rfl rfl)) fun h11 => s_sub (ev_cond (ev_o rfl rfl) h11) (ev_cond (ev_o rfl rfl) h11) (by omega) (by omega)) ?_
    refine d_v (fun V' hU => f_guard rfl (gd_b rfl (ev_o rfl rfl)) fun h11 => s_cmp (ev_cond (ev_o rfl rfl) h11) (ev_cond (ev_o rfl rfl) h11) rfl) ?_
    refine d_v (fun V' hU => f_plain rfl (s_pickor (ev_o rfl rfl) (ev_o rfl rfl))) ?_
    refine d_nil ?_
    refine a_cond (ev_t rfl) (fun h3 => ?_) (fun h3 => a_skip ?_)
    · exfalso; simp [he, hf, hr] at h3
    exact ⟨_, rfl, ⟨rfl, rfl, rfl, rfl, trivial⟩, by
      repeat refine View.le_set ?_ ?_
      all_goals first | exact View.le_refl _ | assumption⟩
  repeat first | refine thenA_x ?_ | refine blockA_hit ?_ | refine blockA_x (by decide) ?_

  refine a_seq (a_region ?_)
  refine a_v rfl (s_fieldAddr Try.f49_1 rfl (ev_t rfl)) ?_
  refine a_v rfl (s_load Try.sh24 (ev_t rfl) (by simp [View.set, View.drop, k4, k6, k11, eb11b6, eb11b6', eb11b4, eb11b4', eb6b4, eb6b4'] <;> first | exact ⟨rfl, rfl⟩ | exact rfl) bkAU) ?_
  refine a_s (s_storew Try.sh24 (ev_t rfl) (ev_t rfl) (by simp [View.set, View.drop, k4, k6, k11, eb11b6, eb11b6', eb11b4, eb11b4', eb6b4, eb6b4'] <;> first | exact ⟨rfl, rfl⟩ | exact rfl) rfl rfl (by first | decide | (simp [ints, four]; done) | (simp [ints, four]; omega)) wrA) ?_
  refine a_v rfl (s_assign ev_c) ?_
  refine a_nil ?_
  refine a_ret ?_
  exact ⟨[_, _], V, ⟨_, _, true, 4, b4, 0, _, none, rfl, Try.sh24, ev_t rfl, View.set_same _ _ _, rdA, _, _, rfl, ev_t rfl, rfl⟩, View.le_set kl (by assumption), by rw [← hus]; rfl, rfl⟩
#print axioms bk_booked
end Go.Proofs
