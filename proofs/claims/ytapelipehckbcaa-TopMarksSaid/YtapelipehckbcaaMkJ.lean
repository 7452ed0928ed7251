/- Cells with marks: copies. -/
import Derived.Test.YtapelipehckbcaaMkI
set_option linter.unusedVariables false
set_option linter.unusedSimpArgs false
set_option linter.unnecessarySimpa false
namespace Go.AV
theorem rowV_one (c : Ce) (o n : Nat) : (rowV c o n).all AVal.one = true := by
  rw [List.all_eq_true]
  intro x hx
  obtain ⟨i, _, rfl⟩ := List.mem_map.1 hx
  rfl
theorem rowV_good (c : Ce) (o n : Nat) : (rowV c o n).all (fun x => x.good && Nat.beq x.cells.length 1) = true := by
  rw [List.all_eq_true]
  intro x hx
  obtain ⟨i, _, rfl⟩ := List.mem_map.1 hx
  rfl
theorem rowV_cells (c : Ce) (o n : Nat) : rowV c o n = (rowV c o n).flatMap AVal.cells := by
  induction n with
  | zero => rfl
  | succ n ih => 
    have : rowV c o (n + 1) = rowV c o n ++ [iv (c o n)] := by simp [rowV, List.range_succ]
    rw [this, List.flatMap_append, ← ih]; rfl
theorem rdX {X : Nat → AVal} {i : Nat} (h : i < 3) : rdc false 1 [X 0, X 1, X 2] (0 + ((i : Nat) : Int).toNat * 1) = some (X i) := cells3 h _ rfl
theorem s_slnil {ρ : Option Nat} {P : Program} {st : ASt} {V : View} {d : Option Tmp} {ty : TypeId} {pos : String} {aft : Array Edge} {gd : Option (Nat × Bool)} {t e t' : TypeId} {y : Operand} {ad : Option Addr} {l cap : Nat} (h : P.underlying t = some (.slice e)) (hy : Ev st y (.v (.slice ad l cap))) :
    OpS ρ P ⟨d, .binOp .eql t y (.const (.slice none 0 0)) t', ty, pos, aft, gd⟩ st V (One (.v (.bool ad.isNone)) V) :=
  opS_pure (by intro c h; cases h) fun m a w s q => by
    have he : a.eval y = .slice ad l cap := by simpa [Tr] using hy m a q
    have hE := run_equal_nil (P := P) h ad l cap w
    have hc0 : a.eval (.const (.slice none 0 0)) = .slice none 0 0 := rfl
    refine ⟨.bool ad.isNone, w, ?_, rfl, by simp [Tr]⟩
    simp [execOp, he, hc0, eqGuard, binOp, hE, Sem.run_bind, Result.andThen]
end Go.AV
namespace Go.Proofs
open Go.AV
variable {V V₀ : View} {b : Nat} {n : Nat → Nat} {c base : Ce} {ss : List Ce}
theorem mk_clone {x : AVal} {k : Nat} {cs : List AVal} (hR : Row V x 1 k cs) (hk : k ≤ 6) (hone : cs.all AVal.one = true) : ACalls Try.prog 52 [x] V (fun y V' => Acc V' y 1 k cs V) := by
  obtain ⟨ad, cap, rfl⟩ := rowLen hR
  refine a_fn (fn := Try.f52) Try.func52 rfl ?_ rfl
  refine a_seq (a_region ?_)
  refine a_v rfl (s_assign ev_c) ?_
  refine a_nil ?_
  refine a_seq (a_seq (a_region ?_))
  refine a_v rfl (s_move (ev_t rfl)) ?_
  refine a_v rfl (s_slnil Try.us84 (ev_t rfl)) ?_
  refine a_nil ?_
  refine a_cond (ev_t rfl) (fun hc => ?_) (fun hc => a_skip ?_)
  · obtain ⟨rfl, rfl⟩ : k = 0 ∧ cs = [] := by
      rcases hR with ⟨_, h1, h2⟩ | ⟨r, cap, hcap, h1, _⟩
      · exact ⟨h1, h2⟩
      · simp at h1; rw [h1.1] at hc; cases hc
    refine a_seq (a_region ?_)
    refine a_v rfl (s_assign ev_c) ?_
    refine a_nil ?_
    refine a_ret ?_
    exact ⟨[_], _, ⟨_, _, rfl, ev_t rfl, rfl⟩, View.le_refl _, accNil⟩
  repeat first | refine thenA_x ?_ | refine blockA_hit ?_ | refine blockA_x (by decide) ?_
  refine a_seq (a_region ?_)
  refine a_vp rfl (s_lito (cs := []) Try.sl84 Try.z2 rfl rfl .nil rfl) fun xv Vv hx => ?_
  have A5 := accNew (sz := 1) hx rfl rfl
  refine a_v rfl (s_move (ev_t rfl)) ?_
  refine a_vp rfl (s_acc Try.sl84 Try.src84 Try.z2 rfl Try.by2 (ev_t rfl) A5 (src_of (ev_t rfl) (rowMono hR (accLe A5))) hone (by omega) (by omega)) fun xv Vv hx => ?_
  have A7 := hx
  refine a_v rfl (s_assign (ev_t rfl)) ?_
  refine a_nil ?_
  refine a_ret ?_
  exact ⟨[_], _, ⟨_, _, rfl, ev_t rfl, rfl⟩, View.le_refl _, accCast A7 (by omega) (by simp)⟩
theorem mk_mclone {bm : Nat} {l : List (Value × AVal)} (hb : V bm = some (.mp l)) : ACalls Try.prog 53 [mpv bm] V (fun y V' => ∃ b', V b' = none ∧ y = mpv b' ∧ V' = V.set b' (.mp l)) := by
  refine a_fn (fn := Try.f53) Try.func53 rfl ?_ rfl
  refine a_seq (a_region ?_)
  refine a_v rfl (s_assign ev_c) ?_
  refine a_nil ?_
  refine a_seq (a_seq (a_region ?_))
  refine a_v rfl (s_move (ev_t rfl)) ?_
  refine a_v rfl (s_mapnil (r := false) Try.um126 (ev_t rfl) (.inl ⟨rfl, rfl⟩)) ?_
  refine a_nil ?_
  refine a_cond (ev_t rfl) (fun hc => ?_) (fun hc => a_skip ?_)
  · cases hc
  repeat first | refine thenA_x ?_ | refine blockA_hit ?_ | refine blockA_x (by decide) ?_
  refine a_seq (a_region ?_)
  refine a_v rfl (s_move (ev_t rfl)) ?_
  refine a_v rfl (s_mkiface Try.um126 (ev_t rfl)) ?_
  refine a_vp rfl (s_mclone Try.func68 Try.mcl.2.1 Try.mcl.2.2 Try.mcl.1 Try.mcf hb (ev_t rfl)) fun xv Vv hx => ?_
  obtain ⟨b', nb', rfl, rfl⟩ := hx
  refine a_v rfl (s_tassert Try.um126 (ev_t rfl)) ?_
  refine a_v rfl (s_assign (ev_t rfl)) ?_
  refine a_nil ?_
  refine a_ret ?_
  exact ⟨[_], _, ⟨_, _, rfl, ev_t rfl, rfl⟩, View.le_refl _, b', nb', rfl, rfl⟩
theorem mk_owner_ok {bc cap : Nat} {X : Nat → AVal} {xm : AVal} (O : Opened V b n c base ss V₀ bc cap X xm) {o : Nat} (ho : o < 3) : ACalls Try.prog 50 [pt b 0, iv ((o + 1 : Nat) : Int)] V (One (.tuple [X o, iv 0]) V) := by
  have h := mk_owner O ((o + 1 : Nat) : Int) (by omega)
  rwa [ownR_ok (o := o) (by omega) ho] at h
theorem mk_all (M : Mem V b n c base ss V₀) (hn : ∀ o, o < 3 → n o ≤ 6) {o : Nat} (ho : o < 3) : ACalls Try.prog 27 [pt b 0, iv ((o + 1 : Nat) : Int)] V (One (.tuple [.tree 1 (rowV c o (n o)), iv 0]) V) := by
  obtain ⟨bc, cap, X, xm, O⟩ := M.open
  refine a_fn (fn := Try.f27) Try.func27 rfl ?_ rfl
  refine a_seq (a_region ?_)
  refine a_v rfl (s_assign ev_c) ?_
  refine a_v rfl (s_assign ev_c) ?_
  refine a_nil ?_
  refine a_seq (a_region ?_)
  refine a_v rfl (s_move (ev_t rfl)) ?_
  refine a_v rfl (s_move (ev_t rfl)) ?_
  refine a_v rfl (s_call Try.okM50 ev_f (.cons (ev_t rfl) (.cons (ev_t rfl) .nil)) (mk_owner_ok O ho)) ?_
  refine a_v rfl (s_move (ev_t rfl)) ?_
  refine a_v rfl (s_extract (ev_t rfl) rfl) ?_
  refine a_v rfl (s_extract (ev_t rfl) rfl) ?_
  refine a_v rfl (s_assign (ev_t rfl)) ?_
  refine a_v rfl (s_assign (ev_t rfl)) ?_
  refine a_nil ?_
  refine a_seq (a_region ?_)
  refine a_v rfl (s_move (ev_t rfl)) ?_
  refine a_v rfl (s_call Try.okM52 ev_f (.cons (ev_t rfl) .nil) (ACalls.freeze (mk_clone (O.rows o ho) (hn o ho) (rowV_one _ _ _)) (rowV_cells _ _ _) (rowV_len _ _ _) (rowV_good _ _ _))) ?_
  refine a_v rfl (s_move (ev_t rfl)) ?_
  refine a_v rfl (s_assign (ev_t rfl)) ?_
  refine a_v rfl (s_assign (ev_t rfl)) ?_
  refine a_nil ?_
  refine a_ret ?_
  exact ⟨[_, _], _, ⟨_, _, rfl, ev_t rfl, _, _, rfl, ev_t rfl, rfl⟩, View.le_refl _, rfl, rfl⟩
#print axioms mk_clone
#print axioms mk_mclone
#print axioms mk_all
end Go.Proofs
