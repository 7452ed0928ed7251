/- The abstract view: guards that are known, freezing, slices that are appended to, nil. -/
import Derived.Test.YtapelipehckbcaaAvO
namespace Go.AV
set_option linter.unusedVariables false
set_option linter.unusedSimpArgs false

variable {ρ : Option Nat} {P : Program} {Q : AQ} {st : ASt} {V : View} {o : Oper} {ops : Array Oper} {rest : List Oper}
  {d : Option Tmp} {ty : TypeId} {pos : String} {aft : Array Edge} {gd : Option (Nat × Bool)}

/-! ### Guards that are known -/
theorem gk {j : Nat} {want b : Bool} {t : Tmp} (hg : o.guard = some (j, want)) (hj : (ops[j]?).bind (·.dst) = some t) (h : Ev st (.tmp t) (.v (.bool b))) (hb : b = want) : GdOK ops o st :=
  .inr ⟨j, want, _, hg, gd_b hj h, hb⟩
def GdNo (ops : Array Oper) (o : Oper) (st : ASt) : Prop := ∃ j want G, o.guard = some (j, want) ∧ Gd st ops j want G ∧ ¬ G
theorem gn {j : Nat} {want b : Bool} {t : Tmp} (hg : o.guard = some (j, want)) (hj : (ops[j]?).bind (·.dst) = some t) (h : Ev st (.tmp t) (.v (.bool b))) (hb : b ≠ want) : GdNo ops o st :=
  ⟨j, want, _, hg, gd_b hj h, hb⟩

theorem a_vpg {d : Tmp} {op : Op} {l : List (Nat × AVal)} {n : Nat} {Post : AVal → View → Prop} (hg : GdOK ops ⟨some d, op, ty, pos, aft, gd⟩ ⟨l, n⟩) (hd : Nat.blt d n = true)
    (ho : OpS ρ P ⟨some d, op, ty, pos, aft, gd⟩ ⟨l, n⟩ V Post) (h : ∀ x V', Post x V' → AOps ρ P ops Q rest ⟨(d, x) :: l, n⟩ V') : AOps ρ P ops Q (⟨some d, op, ty, pos, aft, gd⟩ :: rest) ⟨l, n⟩ V := by
  intro B m a w s t df
  have hd' : dstOK (some d) n = true := by simpa [dstOK, Nat.blt_eq] using hd
  refine wpListIn_step fun K hK => ?_
  rw [if_pos (hg.wanted t)]
  exact ho m a w s t K _ fun v m' w' x V' hp hx s' f => hK _ _ (by
    have := h x V' hp B m' (a.put (some d) v) w' s' ((t.mono f.imm).put (st := ⟨l, n⟩) hd' hx) (df.fr f)
    exact a_op.wpListIn_mono (conc_later f) _ _ _ this)
theorem a_vg {d : Tmp} {op : Op} {l : List (Nat × AVal)} {n : Nat} {x : AVal} {V' : View} (hg : GdOK ops ⟨some d, op, ty, pos, aft, gd⟩ ⟨l, n⟩) (hd : Nat.blt d n = true)
    (ho : OpS ρ P ⟨some d, op, ty, pos, aft, gd⟩ ⟨l, n⟩ V (One x V')) (h : AOps ρ P ops Q rest ⟨(d, x) :: l, n⟩ V') : AOps ρ P ops Q (⟨some d, op, ty, pos, aft, gd⟩ :: rest) ⟨l, n⟩ V :=
  a_vpg hg hd ho fun x' V'' ⟨hx, hV⟩ => by subst hx; subst hV; exact h
theorem a_sg {op : Op} {x : AVal} {V' : View} (hg : GdOK ops ⟨none, op, ty, pos, aft, gd⟩ st)
    (ho : OpS ρ P ⟨none, op, ty, pos, aft, gd⟩ st V (One x V')) (h : AOps ρ P ops Q rest st V') : AOps ρ P ops Q (⟨none, op, ty, pos, aft, gd⟩ :: rest) st V := by
  intro B m a w s t df
  refine wpListIn_step fun K hK => ?_
  rw [if_pos (hg.wanted t)]
  exact ho m a w s t K _ fun v m' w' x V' hp hx s' f => hK _ _ (by
    obtain ⟨_, hV⟩ := hp; subst hV
    have := h B m' a w' s' (t.mono f.imm) (df.fr f)
    exact a_op.wpListIn_mono (conc_later f) _ _ _ this)
theorem a_no {d : Tmp} {op : Op} {l : List (Nat × AVal)} {n : Nat} (hg : GdNo ops ⟨some d, op, ty, pos, aft, gd⟩ ⟨l, n⟩) (hd : Nat.blt d n = true)
    (h : AOps ρ P ops Q rest ⟨(d, .v undef) :: l, n⟩ V) : AOps ρ P ops Q (⟨some d, op, ty, pos, aft, gd⟩ :: rest) ⟨l, n⟩ V := by
  intro B m a w s t df
  have hd' : dstOK (some d) n = true := by simpa [dstOK, Nat.blt_eq] using hd
  refine wpListIn_step fun K hK => ?_
  obtain ⟨j, want, G, hgg, hG, hn⟩ := hg
  have hw : ¬ Region.wanted ⟨some d, op, ty, pos, aft, gd⟩ (yielded ops a.tmps) = true := by
    intro e
    have hgd : gd = some (j, want) := hgg
    subst hgd
    exact hn ((hG m a t).1 (by simpa [Region.wanted] using e))
  rw [if_neg hw]
  exact ⟨fun _ _ => trivial, hK _ _ (h B m (a.put (some d) undef) w s (t.put (st := ⟨l, n⟩) hd' (x := .v undef) (by simp [Tr])) df)⟩

theorem ev_and {y : Operand} {c G : Prop} {x : AVal} (hc : c) (h : Ev st y (.cond (c ∧ G) x)) : Ev st y (.cond G x) := by
  intro m a q
  have := h m a q
  simp only [Tr] at this ⊢
  rcases this with ⟨⟨_, hG⟩, hx⟩ | ⟨hn, hx⟩
  · exact .inl ⟨hG, hx⟩
  · exact .inr ⟨fun hG => hn ⟨hc, hG⟩, hx⟩
/-! ### Nil -/
theorem ev_nil {y : Operand} {sz : Nat} {ad : Option Addr} {cap : Nat} (h : Ev st y (.v (.slice ad 0 cap))) : Ev st y (.tree sz []) := by
  intro m a q
  have := h m a q
  simp only [Tr] at this ⊢
  exact ⟨ad, cap, by rw [this]; rfl, Nat.zero_le _, .inl rfl⟩
theorem run_eqnil {t e : TypeId} (h : P.underlying t = some (.slice e)) (n : Nat) (ad : Option Addr) (l c : Nat) (w : World) : (Op.equalIn (n + 1) t (.slice ad l c) (.slice none 0 0)).run P w = .ok ad.isNone w := by
  cases ad <;> simp [Op.equalIn, run_underlying h, Sem.run_bind, Result.andThen]
theorem run_equal_nil {t e : TypeId} (h : P.underlying t = some (.slice e)) (ad : Option Addr) (l c : Nat) (w : World) : (Op.equal t (.slice ad l c) (.slice none 0 0)).run P w = .ok ad.isNone w := run_eqnil h 9999 ad l c w
theorem run_eqpnil {t e : TypeId} (h : P.underlying t = some (.pointer e)) (n : Nat) (ad : Addr) (w : World) : (Op.equalIn (n + 1) t (.pointer (some ad)) (.pointer none)).run P w = .ok false w := by
  simp [Op.equalIn, run_underlying h, Sem.run_bind, Result.andThen]
theorem run_equal_pnil {t e : TypeId} (h : P.underlying t = some (.pointer e)) (ad : Addr) (w : World) : (Op.equal t (.pointer (some ad)) (.pointer none)).run P w = .ok false w := run_eqpnil h 9999 ad w
/-- Is a slice nil: if so, it has no elements. -/
theorem s_isnil {t e t' : TypeId} {y : Operand} {sz : Nat} {xs : List AVal} (h : P.underlying t = some (.slice e)) (hy : Ev st y (.tree sz xs)) :
    OpS ρ P ⟨d, .binOp .eql t y (.const (.slice none 0 0)) t', ty, pos, aft, gd⟩ st V fun x V' => V' = V ∧ ∃ r : Bool, x = .v (.bool r) ∧ (r = true → xs = []) :=
  opS_of_run (by intro c h; cases h) fun m a w s q => by
    have hv := hy m a q
    simp only [Tr] at hv
    obtain ⟨ad, cap, he, hc, hr⟩ := hv
    refine ⟨.value (.bool ad.isNone), w, m, V, .v (.bool ad.isNone), .bool ad.isNone, ?_, .inl rfl, ⟨rfl, _, rfl, fun hn => ?_⟩, by simp [Tr], s, Fr.refl _ _ _⟩
    · have hE := run_equal_nil (P := P) h ad xs.length cap w
      have hc0 : a.eval (.const (.slice none 0 0)) = .slice none 0 0 := rfl
      simp [execOp, he, hc0, eqGuard, binOp, hE, Sem.run_bind, Result.andThen]
    · rcases hr with hr | ⟨b, off, cs, rfl, _⟩
      · exact List.length_eq_zero_iff.1 hr
      · cases hn
theorem s_pnil {op : BinOp} {t e t' : TypeId} {y : Operand} {ad : Addr} {r : Bool} (h : P.underlying t = some (.pointer e)) (hy : Ev st y (.v (.pointer (some ad)))) (hr : op = .eql ∧ r = false ∨ op = .neq ∧ r = true) :
    OpS ρ P ⟨d, .binOp op t y (.const (.pointer none)) t', ty, pos, aft, gd⟩ st V (One (.v (.bool r)) V) :=
  opS_pure (by intro c h; cases h) fun m a w s q => by
    have hv : a.eval y = .pointer (some ad) := by simpa [Tr] using hy m a q
    refine ⟨.bool r, w, ?_, rfl, by simp [Tr]⟩
    have hE := run_equal_pnil (P := P) h ad w
    have hc0 : a.eval (.const (.pointer none)) = .pointer none := rfl
    rcases hr with ⟨rfl, rfl⟩ | ⟨rfl, rfl⟩ <;> simp [execOp, hv, hc0, eqGuard, binOp, hE, Sem.run_bind, Result.andThen]

/-! ### Slices that are appended to -/
/-- A slice of one's own, as it stands. -/
def Row (V : View) (x : AVal) (sz n : Nat) (cs : List AVal) : Prop :=
  (x = .v (.slice none 0 0) ∧ n = 0 ∧ cs = []) ∨ ∃ b cap, n ≤ cap ∧ x = .v (.slice (some ⟨b, 0, none⟩) n cap) ∧ cs.length = n * sz ∧ V b = some (.rown cs (some (cap * sz)))
theorem rowMono {V V' : View} {x : AVal} {sz n : Nat} {cs : List AVal} (h : Row V x sz n cs) (hV : V.le V') : Row V' x sz n cs := by
  rcases h with h | ⟨b, cap, h1, h2, h3, h4⟩
  · exact .inl h
  · exact .inr ⟨b, cap, h1, h2, h3, hV _ _ h4⟩
theorem accRow {x : AVal} {sz n : Nat} {cs : List AVal} {V₀ : View} (h : Acc V x sz n cs V₀) : Row V x sz n cs := by
  rcases h with ⟨h1, h2, h3, _⟩ | ⟨b, cap, h1, _, h2, h3, h4, _⟩
  · exact .inl ⟨h1, h2, h3⟩
  · exact .inr ⟨b, cap, h1, h2, h3, h4⟩
theorem accLe {x : AVal} {sz n : Nat} {cs : List AVal} {V₀ : View} (h : Acc V x sz n cs V₀) : V₀.le V := by
  intro b o hb; exact h.some hb
theorem accCast {x : AVal} {sz n n' : Nat} {cs cs' : List AVal} {V₀ : View} (h : Acc V x sz n cs V₀) (e1 : n = n') (e2 : cs = cs') : Acc V x sz n' cs' V₀ := e1 ▸ e2 ▸ h
theorem accNil {sz : Nat} : Acc V (.v (.slice none 0 0)) sz 0 [] V := .inl ⟨rfl, rfl, rfl, rfl⟩
theorem accNew {x : AVal} {V' : View} {sz n N : Nat} {cs : List AVal} (h : NewSlice V n cs (some N) x V') (hc : cs.length = n * sz) (hN : N = n * sz) : Acc V' x sz n cs V := by
  obtain ⟨b, hb, rfl, rfl⟩ := h
  exact .inr ⟨b, n, Nat.le_refl _, hb, rfl, hc, by simp [hN], by rw [View.drop_set, View.drop_none _ hb]⟩
theorem accShrink {V' V₁ : View} {x : AVal} {sz n : Nat} {cs : List AVal} (h : Acc V' x sz n cs V₁) (hV : V.le V₁) : ∃ V'', V''.le V' ∧ Acc V'' x sz n cs V := by
  rcases h with ⟨h1, h2, h3, rfl⟩ | ⟨b, cap, h1, h0, h2, h3, h4, rfl⟩
  · exact ⟨V, hV, .inl ⟨h1, h2, h3, rfl⟩⟩
  · have hb : V b = none := View.le_none hV (by simp)
    refine ⟨V.set b (.rown cs (some (cap * sz))), fun c o hc => ?_, .inr ⟨b, cap, h1, hb, h2, h3, by simp, by rw [View.drop_set, View.drop_none _ hb]⟩⟩
    by_cases e : c = b
    · subst e; simp at hc; subst hc; exact h4
    · rw [View.set_other _ _ e] at hc
      have := hV _ _ hc
      rwa [View.drop_other _ e] at this
theorem accSwap {V₁ V₂ : View} {x y : AVal} {sz sz' n n' : Nat} {cs cs' : List AVal} (h : Acc V x sz n cs V₁) (k : Acc V₁ y sz' n' cs' V₂) : ∃ V₁', Acc V y sz' n' cs' V₁' ∧ Acc V₁' x sz n cs V₂ := by
  rcases h with ⟨rfl, rfl, rfl, rfl⟩ | ⟨b, cap, h1, h0, rfl, h3, h4, rfl⟩
  · exact ⟨V₂, k, accNil⟩
  · rcases k with ⟨rfl, rfl, rfl, rfl⟩ | ⟨c, cap', k1, k0, rfl, k3, k4, rfl⟩
    · exact ⟨V, accNil, .inr ⟨b, cap, h1, h0, rfl, h3, h4, rfl⟩⟩
    · have hne : c ≠ b := by rintro rfl; simp at k4
      have hVc : V c = some (.rown cs' (some (cap' * sz'))) := by rwa [View.drop_other _ hne] at k4
      refine ⟨V.drop c, .inr ⟨c, cap', k1, by simp, rfl, k3, hVc, rfl⟩, .inr ⟨b, cap, h1, by rw [View.drop_other _ hne.symm]; simp, rfl, h3, by rw [View.drop_other _ hne.symm]; exact h4, ?_⟩⟩
      funext i
      by_cases e1 : i = b <;> by_cases e2 : i = c <;> simp [View.drop, e1, e2]

theorem src_of {y : Operand} {x : AVal} {sz n : Nat} {cs : List AVal} (hy : Ev st y x) (h : Row V x sz n cs) : Src P st V y sz n cs := by
  rcases h with ⟨rfl, rfl, rfl⟩ | ⟨b, cap, h1, rfl, h3, h4⟩
  · exact src_nil hy
  · have := src_row (P := P) (sz := sz) hy h4 (by omega)
    rwa [List.drop_zero, List.take_of_length_le (by omega)] at this
theorem rowLen {x : AVal} {sz n : Nat} {cs : List AVal} (h : Row V x sz n cs) : ∃ ad cap, x = .v (.slice ad n cap) := by
  rcases h with ⟨rfl, rfl, rfl⟩ | ⟨b, cap, h1, rfl, h3, h4⟩
  · exact ⟨_, _, rfl⟩
  · exact ⟨_, _, rfl⟩
theorem s_lenA {t e : TypeId} {y : Operand} {x : AVal} {sz n : Nat} {cs : List AVal} (h : P.underlying t = some (.slice e)) (hy : Ev st y x) (hR : Row V x sz n cs) :
    OpS ρ P ⟨d, .call ⟨.builtin .len, #[y], #[t]⟩, ty, pos, aft, gd⟩ st V (One (.v (.int .i64 n)) V) := by
  obtain ⟨ad, cap, rfl⟩ := rowLen hR
  exact s_lens h hy
/-- Append to the slice that lies beneath another one. -/
theorem s_acc2 {t xt e : TypeId} {g : Bool} {sz sz' by_ n n' mm : Nat} {y z : Operand} {x x' : AVal} {cs cs' ycs : List AVal} {zv : Value} {V₁ V₂ : View}
    (ht : sliOf P t = some (e, g, sz)) (hxt : srcTy P xt = true) (hz : zeroOf P e = some zv) (hzs : zv.cells.size = sz) (hby : bytesOf P e = some by_)
    (hy : Ev st y x) (hT : Acc V x' sz' n' cs' V₁) (hA : Acc V₁ x sz n cs V₂) (hS : Src P st V z sz mm ycs) (hone : ycs.all AVal.one = true)
    (hroom : (2 * (n + mm) + 192) * by_ ≤ 281474976710656) (hlen : n + mm ≤ 4611686018427387904) :
    OpS ρ P ⟨d, .call ⟨.builtin .append, #[y, z], #[t, xt]⟩, ty, pos, aft, gd⟩ st V (fun u V' => ∃ V₁', Acc V' x' sz' n' cs' V₁' ∧ Acc V₁' u sz (n + mm) (cs ++ ycs) V₂) := by
  obtain ⟨V₁', h1, h2⟩ := accSwap hT hA
  intro m a w s q next Q' hn
  exact s_acc (V := V) (V₀ := V₁') ht hxt hz hzs hby hy h1 hS hone hroom hlen m a w s q next Q' fun v m' w' u V' hp hx s' f => by
    obtain ⟨V₃, h3, h4⟩ := accSwap hp h2
    exact hn v m' w' u V' ⟨V₃, h3, h4⟩ hx s' f

/-! ### Freezing -/
theorem accFreeze {V₀ : View} {m : Imm} {w : World} {x : AVal} {sz n : Nat} {cs els : List AVal} {v : Value} (hA : Acc V x sz n cs V₀) (hcs : cs = els.flatMap AVal.cells) (hn : els.length = n)
    (hel : els.all (fun x => x.good && Nat.beq x.cells.length sz) = true) (s : Sat m V w) (hx : Tr m x v) : ∃ m', Sat m' V₀ w ∧ Fr m V w m' V₀ w ∧ Tr m' (.tree sz els) v := by
  subst hcs
  rcases hA with ⟨rfl, rfl, hcs, rfl⟩ | ⟨b, cap, hcap, hVb, rfl, hlen, hrow, rfl⟩
  · have : els = [] := List.length_eq_zero_iff.1 hn
    subst this
    refine ⟨m, s, Fr.refl _ _ _, ?_⟩
    simp only [Tr] at hx ⊢
    subst hx
    exact ⟨none, 0, rfl, Nat.le_refl _, .inl rfl⟩
  · obtain ⟨us, htl, s', f⟩ := s.freeze hrow
    refine ⟨_, s', f, ?_⟩
    simp only [Tr] at hx ⊢
    subst hx hn
    refine ⟨_, cap, rfl, hcap, .inr ⟨b, 0, us, rfl, by simp, ?_⟩⟩
    have := TrE.of_cells (htl.mono f.imm) hel []
    simpa using this
theorem OpS.freeze {V₀ : View} {sz n : Nat} {cs els : List AVal} (h : OpS ρ P o st V fun x V' => Acc V' x sz n cs V₀) (hcs : cs = els.flatMap AVal.cells) (hn : els.length = n)
    (hel : els.all (fun x => x.good && Nat.beq x.cells.length sz) = true) : OpS ρ P o st V (One (.tree sz els) V₀) := by
  intro m a w s q next Q' hk
  exact h m a w s q next Q' fun v m' w' x V' hp hx s' f => by
    obtain ⟨m2, s2, f2, t2⟩ := accFreeze hp hcs hn hel s' hx
    exact hk v m2 w' _ _ ⟨rfl, rfl⟩ t2 s2 (f.trans f2)
theorem ACalls.freeze {f : FuncId} {args : List AVal} {V₀ : View} {sz n : Nat} {cs els : List AVal} (h : ACalls P f args V fun x V' => Acc V' x sz n cs V₀) (hcs : cs = els.flatMap AVal.cells) (hn : els.length = n)
    (hel : els.all (fun x => x.good && Nat.beq x.cells.length sz) = true) : ACalls P f args V (One (.tree sz els) V₀) := by
  intro m w vals s ht
  refine CallsIn.mono (h m w vals s ht) ?_
  rintro e w' ⟨m', x, V', v, rfl, hx, hp, s', f'⟩
  obtain ⟨m2, s2, f2, t2⟩ := accFreeze hp hcs hn hel s' hx
  exact ⟨m2, _, _, v, rfl, t2, ⟨rfl, rfl⟩, s2, f'.trans f2⟩
theorem byT_els (l : List UInt8) : byT l = (byT l).flatMap AVal.cells := by rw [byT_cells]; simp [byT]
theorem byT_len (l : List UInt8) : (byT l).length = l.length := by simp [byT]
theorem byT_app (a b : List UInt8) : byT (a ++ b) = byT a ++ byT b := by simp [byT]
theorem byT_one (l : List UInt8) : (byT l).all AVal.one = true := by
  rw [List.all_eq_true]; intro x hx; simp only [byT, List.mem_map] at hx; obtain ⟨b, _, rfl⟩ := hx; rfl
theorem src_by {y : Operand} {bs : List UInt8} (hy : Ev st y (.tree 1 (byT bs))) : Src P st V y 1 bs.length (byT bs) := by
  have := src_tree (P := P) (V := V) hy (byT_good bs)
  rwa [byT_len, ← byT_els] at this
theorem src_b1 {y : Operand} {b : UInt8} (hy : Ev st y (.tree 1 [.v (.int .u8 (b.toNat : Int))])) : Src P st V y 1 1 (byT [b]) := src_by (bs := [b]) hy
/-- A slice that is written out whole. -/
theorem s_litx {t e : TypeId} {g : Bool} {sz len : Nat} {z : Value} {ys : List (Nat × Operand)} {xs : List (Nat × AVal)}
    (ht : sliOf P t = some (e, g, sz)) (hz : zeroOf P e = some z) (hsz : z.cells.size = sz) (hle : Nat.ble (len * sz) 16777216 = true)
    (hy : EvP st ys xs) (hf : fillA (fun i => some (i * sz, sz)) xs ((zeros z len).map .v) = some ((xs.map Prod.snd).flatMap AVal.cells)) (hel : (xs.map Prod.snd).all (fun x => x.good && Nat.beq x.cells.length sz) = true) (hn : (xs.map Prod.snd).length = len) :
    OpS ρ P ⟨d, .buildSlice t len ⟨ys⟩, ty, pos, aft, gd⟩ st V (One (.tree sz (xs.map Prod.snd)) V) := s_lit ht hz hsz hle hy hf hel hn
/-- Bytes of one's own, read as a string. -/
theorem s_b2sA {src dst e : TypeId} {y : Operand} {x : AVal} {n : Nat} {bs : List UInt8} {V₀ : View} (hs : P.underlying src = some (.slice e)) (he : P.underlying e = some (.int .u8)) (hd : P.underlying dst = some .string) (hy : Ev st y x)
    (hA : Acc V x 1 n (byT bs) V₀) (hn : bs.length = n) : OpS ρ P ⟨d, .convert src dst y, ty, pos, aft, gd⟩ st V (One (.v (.string ⟨bs.toArray⟩)) V) :=
  opS_pure (by intro c h; cases h) fun m a w s q => by
    obtain ⟨m', s', f, ht⟩ := accFreeze hA (byT_els bs) (by rw [byT_len, hn]) (byT_good bs) s (hy m a q)
    refine ⟨.string ⟨bs.toArray⟩, w, ?_, rfl, by simp [Tr]⟩
    simp [execOp, run_b2s s' hs he hd ht, Sem.run_bind, Result.andThen]

/-! ### Loads of what never changes -/
theorem ref1 {u : Value} (hu : u.oneCell' = true) (m : Imm) (v : Value) (h : Tr m (.v u) v) : v.cells.size = 1 ∧ (false = true → ∃ c, v = .agg c) ∧ (false = false → v.cells = #[v]) := by
  simp only [Tr] at h; subst h
  have := cells_of_one hu
  exact ⟨(by rw [this]; rfl), fun h => (by cases h), fun _ => this⟩
theorem refT (sz : Nat) (xs : List AVal) (m : Imm) (v : Value) (h : Tr m (.tree sz xs) v) : v.cells.size = 1 ∧ (false = true → ∃ c, v = .agg c) ∧ (false = false → v.cells = #[v]) := by
  simp only [Tr] at h; obtain ⟨a, cap, rfl, _⟩ := h
  exact ⟨rfl, fun h => by (cases h), fun _ => rfl⟩
theorem refA {xs : List AVal} {n : Nat} (hn : xs.length = n) (m : Imm) (v : Value) (h : Tr m (.agg xs) v) : v.cells.size = n ∧ (true = true → ∃ c, v = .agg c) ∧ (true = false → v.cells = #[v]) := by
  simp only [Tr] at h; obtain ⟨vs, rfl, ht⟩ := h
  have := ht.length
  exact ⟨by simp [Value.cells]; omega, fun _ => ⟨_, rfl⟩, fun h => by (cases h)⟩

/-- A part of an array of one's own. -/
theorem s_slicea {t : TypeId} {g : Bool} {sz N b off l h : Nat} {y : Operand} {lo hi : Option Operand} (ht : arrOf P t = some (N, g, sz)) (hy : Ev st y (.v (.pointer (some ⟨b, off, none⟩))))
    (hl : Bnd st lo 0 l) (hh : Bnd st hi N h) (h1 : l ≤ h) (h2 : h ≤ N) (h3 : l < N) : OpS ρ P ⟨d, .slice t y lo hi none, ty, pos, aft, gd⟩ st V (One (.v (.slice (some ⟨b, off + l * sz, none⟩) (h - l) (N - l))) V) :=
  opS_pure (by intro c h; cases h) fun m a w s q => by
    obtain ⟨e, hu, hs⟩ := arrOf_info ht
    have hv : a.eval y = .pointer (some ⟨b, off, none⟩) := by simpa [Tr] using hy m a q
    have hb := run_sliceBounds (P := P) (w := w) (isS := false) (cap := N) q hl hh h1 h2
    refine ⟨.slice (some ⟨b, off + l * sz, none⟩) (h - l) (N - l), w, ?_, rfl, by simp [Tr]⟩
    simp [execOp, hv, Instr.sliceAt, Instr.sureAddr, run_underlying hu, Sem.run_bind, Result.andThen, hb, (run_isAgg_shp hs w).2, addr_add]
    intro e; omega
/-! ### Bytes -/
def bat (b : List UInt8) (i : Int) : Int := ((b.getD i.toNat 0).toNat : Int)
theorem byG {b : List UInt8} {i : Int} (h : i.toNat < b.length) : (byT b)[i.toNat]? = some (.v (.int .u8 (bat b i))) := by
  simp [byT, bat, h]
theorem byGe {b : List UInt8} {i j : Int} (h : i.toNat < b.length) (e : bat b i = j) : (byT b)[i.toNat]? = some (.v (.int .u8 j)) := e ▸ byG h
theorem bat_lt (b : List UInt8) (i : Int) : 0 ≤ bat b i ∧ bat b i < 256 := by
  have := (b.getD i.toNat 0).toNat_lt
  unfold bat; omega
theorem s_leny {t e : TypeId} {y : Operand} {b : List UInt8} (h : P.underlying t = some (.slice e)) (hy : Ev st y (.tree 1 (byT b))) :
    OpS ρ P ⟨d, .call ⟨.builtin .len, #[y], #[t]⟩, ty, pos, aft, gd⟩ st V (One (.v (.int .i64 b.length)) V) := by
  have := s_lent (ρ := ρ) (V := V) (d := d) (ty := ty) (pos := pos) (aft := aft) (gd := gd) h hy
  rwa [byT_len] at this
theorem s_slicety {t e : TypeId} {g : Bool} {l h : Nat} {y : Operand} {lo hi : Option Operand} {b : List UInt8} (ht : sliOf P t = some (e, g, 1)) (hy : Ev st y (.tree 1 (byT b)))
    (hl : Bnd st lo 0 l) (hh : Bnd st hi b.length h) (h1 : l ≤ h) (h2 : h ≤ b.length) : OpS ρ P ⟨d, .slice t y lo hi none, ty, pos, aft, gd⟩ st V (One (.tree 1 (byT ((b.take h).drop l))) V) := by
  have := s_slicet (ρ := ρ) (V := V) (d := d) (ty := ty) (pos := pos) (aft := aft) (gd := gd) ht hy hl (by rw [byT_len]; exact hh) h1 (by rw [byT_len]; exact h2)
  have e : (List.take h (byT b)).drop l = byT ((b.take h).drop l) := by simp [byT]
  rwa [e] at this
theorem f_known {x : AVal} (hg : GdOK ops o st) (h : OpS ρ P o st V (One x V)) : OpF ρ P ops o st V x := by
  intro m a w s t next Q hn
  rw [if_pos (hg.wanted t)]
  exact h m a w s t next Q fun v m' w' x' V' ⟨hx, hV⟩ ht s' f => by subst hx; subst hV; exact hn v m' w' ht s' f
#print axioms s_slicea
#print axioms s_b2sA
#print axioms ACalls.freeze
#print axioms s_acc2
end Go.AV
