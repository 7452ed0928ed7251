/- Operations over the abstract view, second part: stores, boxes, addresses, aggregates. -/
import Derived.Test.YtapelipehckbcaaAvC
namespace Go.AV
set_option linter.unusedVariables false

/-- A value of one cell; a value whose cells are such. -/
def AVal.one : AVal → Bool
  | .v x => x.oneCell'
  | .tree _ _ => true
  | .ref _ => true
  | _ => false
def AVal.good : AVal → Bool
  | .agg cs => cs.all AVal.one
  | x => x.one

theorem Tr.oneCell {m : Imm} {x : AVal} {v : Value} (h : Tr m x v) (hx : x.one = true) : v.oneCell' = true := by
  cases x with
  | v u => simp only [Tr] at h; subst h; exact hx
  | tree sz xs => simp only [Tr] at h; obtain ⟨a, cap, rfl, _⟩ := h; rfl
  | ref y => simp only [Tr] at h; obtain ⟨b, off, cs, u, r, rfl, _⟩ := h; rfl
  | agg cs => cases hx
  | tuple cs => cases hx
  | cond c y => cases hx
theorem TrL.oneCells {m : Imm} : ∀ {xs : List AVal} {vs : List Value}, TrL m xs vs → xs.all AVal.one = true → ∀ v ∈ vs, v.oneCell' = true
  | [], vs, h, _, v, hv => by simp only [TrL] at h; subst h; cases hv
  | x :: xs, vs, h, hx, v, hv => by
    simp only [TrL] at h; obtain ⟨u, r, rfl, hu, k⟩ := h
    simp only [List.all_cons, Bool.and_eq_true] at hx
    rcases List.mem_cons.1 hv with rfl | hv
    · exact hu.oneCell hx.1
    · exact TrL.oneCells k hx.2 v hv
theorem cells_of_one {v : Value} (h : v.oneCell' = true) : v.cells = #[v] := by cases v <;> first | rfl | cases h
theorem Tr.good {m : Imm} {x : AVal} {v : Value} (h : Tr m x v) (hx : x.good = true) : TrL m x.cells v.cells.toList ∧ ∀ u ∈ v.cells.toList, u.oneCell' = true := by
  cases x with
  | agg cs =>
    simp only [Tr] at h; obtain ⟨vs, rfl, k⟩ := h
    exact ⟨by simpa [AVal.cells, Value.cells] using k, fun u hu => k.oneCells hx u (by simpa [Value.cells] using hu)⟩
  | v y =>
    have h1 := h.oneCell hx
    simp only [AVal.cells, cells_of_one h1, TrL]
    exact ⟨⟨v, [], rfl, h, rfl⟩, fun u hu => by simp at hu; subst hu; exact h1⟩
  | tree sz xs =>
    have h1 := h.oneCell hx
    simp only [AVal.cells, cells_of_one h1, TrL]
    exact ⟨⟨v, [], rfl, h, rfl⟩, fun u hu => by simp at hu; subst hu; exact h1⟩
  | ref y =>
    have h1 := h.oneCell hx
    simp only [AVal.cells, cells_of_one h1, TrL]
    exact ⟨⟨v, [], rfl, h, rfl⟩, fun u hu => by simp at hu; subst hu; exact h1⟩
  | tuple cs => cases hx
  | cond c y => cases hx

theorem run_storeCells_row (P : Program) {b : Nat} {T : TypeId} (off : Nat) : ∀ (vs : List Value) (i : Nat) (w : World) (c : Array Value), w.heap[b]? = some (.cells c T (0, 0)) →
    off + i + vs.length ≤ c.size → (∀ v ∈ vs, v.oneCell' = true) →
    ∃ w' c', (storeCells ⟨b, off, none⟩ vs i).run P w = .ok () w' ∧ w'.heap.size = w.heap.size ∧ w'.heap[b]? = some (.cells c' T (0, 0)) ∧ (∀ k, k ≠ b → w'.heap[k]? = w.heap[k]?) ∧ Quiet0 w w' ∧
      c'.toList = c.toList.take (off + i) ++ (vs ++ c.toList.drop (off + i + vs.length)) := by
  intro vs
  induction vs with
  | nil => intro i w c hw _ _; exact ⟨w, c, rfl, rfl, hw, fun _ _ => rfl, Quiet0.refl _, by simp⟩
  | cons v vs ih =>
    intro i w c hw hle hone
    have hlt : off + i < c.size := by simp at hle; omega
    have hadr : ((⟨b, off, none⟩ : Addr).add i) = ⟨b, off + i, none⟩ := by unfold Addr.add; split <;> simp_all
    have hcell : w.cell? ⟨b, off + i, none⟩ = some c[off + i] := by rw [cell_row hw, Array.getElem?_eq_getElem hlt]
    have hfr : w.frozen? ⟨b, off + i, none⟩ = false := by simp [World.frozen?, hw]
    have hnew : (w.setCell ⟨b, off + i, none⟩ v).heap[b]? = some (.cells (c.setIfInBounds (off + i) v) T (0, 0)) := by
      simp [World.setCell, Array.getElem?_modify, hw]
    obtain ⟨w', c', hr, hs, hn, hk, hq, hc⟩ := ih (i + 1) (w.setCell ⟨b, off + i, none⟩ v) (c.setIfInBounds (off + i) v) hnew (by simp at hle ⊢; omega) (fun u hu => hone u (by simp [hu]))
    refine ⟨w', c', ?_, by rw [hs]; simp, hn, fun k hkb => ?_, ⟨hq.1, hq.2⟩, ?_⟩
    · unfold storeCells
      rw [hadr]
      simp only [Sem.run_bind, run_store P w _ v .plain (hone v (by simp)), hcell, hfr, Bool.false_eq_true, if_false, Result.andThen]
      exact hr
    · rw [hk k hkb]
      simp only [World.setCell, Array.getElem?_modify]
      rw [if_neg (Ne.symm hkb)]
    · rw [hc, Array.toList_setIfInBounds]
      have hlt' : off + i < c.toList.length := by simpa using hlt
      rw [show off + (i + 1) = off + i + 1 by omega, List.drop_set_of_lt (by omega), List.take_add_one, List.take_set_of_le (Nat.le_refl _)]
      simp only [List.getElem?_set_self hlt', Option.toList_some, List.append_assoc, List.cons_append, List.nil_append, List.length_cons]
      rw [show off + i + 1 + vs.length = off + i + (vs.length + 1) by omega]

section
variable {ρ : Option Nat} {P : Program} {Q : AQ} {st : ASt} {V : View} {o : Oper} {ops : Array Oper} {rest : List Oper}
  {d : Option Tmp} {ty : TypeId} {pos : String} {aft : Array Edge} {gd : Option (Nat × Bool)}

theorem s_store {y z : Operand} {t : TypeId} {b off n : Nat} {g : Bool} {cs : List AVal} {N : Option Nat} {x : AVal}
    (hs : shp P t = some (g, n)) (hy : Ev st y (.v (.pointer (some ⟨b, off, none⟩)))) (hz : Ev st z x) (hb : V b = some (.rown cs N)) (hx : x.good = true)
    (hn : x.cells.length = n) (hle : off + n ≤ cs.length) :
    OpS ρ P ⟨d, .store t y z, ty, pos, aft, gd⟩ st V (One (.v undef) (V.set b (.rown (wrc cs off x.cells) N))) :=
  opS_of_run (by intro c h; cases h) fun m a w s k => by
    have hv : a.eval y = .pointer (some ⟨b, off, none⟩) := by simpa [Tr] using hy m a k
    obtain ⟨o', ho, c, T, rfl, ⟨us, r, hc, ht⟩, hN⟩ := s.obj b _ hb
    obtain ⟨hcl, hone⟩ := (hz m a k).good hx
    have hlen := hcl.length
    have hul := ht.length
    have hcs : c.size = us.length + r.length := by rw [← List.length_append, ← hc]; simp
    obtain ⟨w', c', hr, hsz, hn', hk, hq, hc'⟩ := run_storeCells_row P off (a.eval z).cells.toList 0 w c ho (by rw [hlen]; omega) hone
    have hsz' : c'.size = c.size := by
      have := congrArg List.length hc'
      simp only [List.length_append, List.length_take, List.length_drop, hlen] at this
      simp only [Array.length_toList] at this
      omega
    have hok : AObj.OK m (.rown (wrc cs off x.cells) N) (.cells c' T (0, 0)) := by
      refine ⟨c', T, rfl, ⟨us.take off ++ ((a.eval z).cells.toList ++ us.drop (off + x.cells.length)), r, ?_, (ht.take off).append (hcl.append (ht.drop _))⟩, fun k hk => by rw [hsz']; exact hN k hk⟩
      rw [hc', hc, hlen]
      simp only [Nat.add_zero]
      rw [List.take_append_of_le_length (by omega), List.drop_append_of_le_length (by omega)]
      simp
    obtain ⟨s', f⟩ := s.put hb hok hsz hn' hk hq
    refine ⟨_, w', m, _, _, undef, ?_, .inr ⟨rfl, rfl⟩, ⟨rfl, rfl⟩, by simp [Tr], s', f⟩
    simp only [execOp, hv, Instr.storeAt, Instr.sureAddr, Sem.run_bind, Sem.run_pure, Result.andThen, storeVar, (run_isAgg_shp hs w).2]
    rw [if_neg (by simp; rw [← hn, ← hlen]; simp)]
    rw [hr]

/-- The zero value, as one sees it. -/
def zv : Value → AVal
  | .agg cs => .agg (cs.toList.map .v)
  | x => .v x
theorem TrL_exact (m : Imm) : ∀ (vs : List Value), TrL m (vs.map .v) vs
  | [] => rfl
  | v :: vs => ⟨v, vs, rfl, by simp [Tr], TrL_exact m vs⟩
theorem Tr_zv (m : Imm) (z : Value) : Tr m (zv z) z := by
  cases z <;> simp only [zv, Tr]
  exact ⟨_, rfl, TrL_exact m _⟩
theorem zv_cells (z : Value) : (zv z).cells = z.cells.toList.map .v := by cases z <;> simp [zv, AVal.cells, Value.cells]

theorem run_zeroOf {t : TypeId} {z : Value} (h : zeroOf P t = some z) (w : World) : (zeroValue t).run P w = .ok z w := by
  unfold zeroOf at h
  cases hi : P.info? t with
  | none => simp [hi] at h
  | some i =>
    simp [hi] at h
    unfold zeroValue typeInfo
    simp [Sem.run_bind, program, Sem.run, hi, Result.andThen, h]

/-- A new variable. -/
def NewRow (V : View) (cs : List AVal) : AVal → View → Prop := fun x' V' => ∃ b, V b = none ∧ x' = .v (.pointer (some ⟨b, 0, none⟩)) ∧ V' = V.set b (.row cs)

theorem s_alloc {t : TypeId} {z : Value} (hz : zeroOf P t = some z) : OpS ρ P ⟨d, .alloc t, ty, pos, aft, gd⟩ st V (NewRow V (z.cells.toList.map .v)) :=
  opS_of_run (by intro c h; cases h) fun m a w s k => by
    have hok : AObj.OK m (.row (z.cells.toList.map .v)) (.cells z.cells t (0, 0)) := ⟨z.cells, t, rfl, ⟨z.cells.toList, [], by simp, TrL_exact m _⟩, fun _ h => by cases h⟩
    obtain ⟨s', f⟩ := s.alloc hok
    refine ⟨.value (.pointer (some ⟨w.heap.size, 0, none⟩)), _, m, _, _, .pointer (some ⟨w.heap.size, 0, none⟩), ?_, .inl rfl, ⟨w.heap.size, s.fresh, rfl, rfl⟩, by simp [Tr], s', f⟩
    simp only [execOp, Instr.alloc, Sem.run_bind, run_zeroOf hz, Result.andThen, newVar, newRow, run_newObj_alloc, Sem.run_pure]

theorem s_box {t : TypeId} {y : Operand} {x : AVal} (hy : Ev st y x) (hx : x.good = true) : OpS ρ P ⟨d, .box t y, ty, pos, aft, gd⟩ st V (NewRow V x.cells) :=
  opS_of_run (by intro c h; cases h) fun m a w s k => by
    obtain ⟨hcl, hone⟩ := (hy m a k).good hx
    have hok : AObj.OK m (.row x.cells) (.cells (a.eval y).cells t (0, 0)) := ⟨_, t, rfl, ⟨(a.eval y).cells.toList, [], by simp, hcl⟩, fun _ h => by cases h⟩
    obtain ⟨s', f⟩ := s.alloc hok
    refine ⟨.value (.pointer (some ⟨w.heap.size, 0, none⟩)), _, m, _, _, .pointer (some ⟨w.heap.size, 0, none⟩), ?_, .inl rfl, ⟨w.heap.size, s.fresh, rfl, rfl⟩, by simp [Tr], s', f⟩
    simp only [execOp, Instr.box, Sem.run_bind, Result.andThen, newVar, newRow, run_newObj_alloc, Sem.run_pure]

theorem s_nilCheck {y : Operand} {a : Addr} (hy : Ev st y (.v (.pointer (some a)))) : OpS ρ P ⟨d, .nilCheck y, ty, pos, aft, gd⟩ st V (One (.v (.pointer (some a))) V) :=
  opS_pure (by intro c h; cases h) fun m A w s k => by
    have hv : A.eval y = .pointer (some a) := by simpa [Tr] using hy m A k
    exact ⟨.pointer (some a), w, by simp [execOp, hv], rfl, by simp [Tr]⟩
theorem s_nilCheckr {y : Operand} {x : AVal} (hy : Ev st y (.ref x)) : OpS ρ P ⟨d, .nilCheck y, ty, pos, aft, gd⟩ st V (One (.ref x) V) :=
  opS_pure (by intro c h; cases h) fun m A w s k => by
    have h := hy m A k
    have h' := h
    simp only [Tr] at h
    obtain ⟨b, off, cs, u, r, he, _⟩ := h
    exact ⟨A.eval y, w, by simp [execOp, he], rfl, h'⟩

theorem fldOf_info {t : TypeId} {i off : Nat} {g : Bool} {n : Nat} (h : fldOf P t i = some (off, g, n)) : ∃ fs f, P.underlying t = some (.struct fs) ∧ fs[i]? = some f ∧ f.offset = off ∧ shp P f.type = some (g, n) := by
  unfold fldOf at h
  split at h
  · rename_i fs hu
    cases hf : fs[i]? with
    | none => simp [hf] at h
    | some f =>
      simp only [hf, Option.bind_some] at h
      cases hs : shp P f.type with
      | none => simp [hs] at h
      | some x =>
        simp only [hs, Option.map_some, Option.some.injEq, Prod.mk.injEq] at h
        obtain ⟨rfl, rfl⟩ := h
        exact ⟨fs, f, hu, hf, rfl, hs⟩
  · cases h

theorem run_fieldAt {t : TypeId} {i off : Nat} {g : Bool} {n b o : Nat} (h : fldOf P t i = some (off, g, n)) (hn : n ≠ 0) (w : World) :
    (Instr.fieldAt t (.pointer (some ⟨b, o, none⟩)) i).run P w = .ok (.pointer (some ⟨b, o + off, none⟩)) w := by
  obtain ⟨fs, f, hu, hf, rfl, hs⟩ := fldOf_info h
  have hadr : ((⟨b, o, none⟩ : Addr).add f.offset) = ⟨b, o + f.offset, none⟩ := by unfold Addr.add; split <;> simp_all
  unfold Instr.fieldAt
  simp only [Sem.run_bind, run_underlying hu, Result.andThen, hf, Instr.sureAddr, Sem.run_pure, fieldPlace, (run_isAgg_shp hs w).2, if_neg hn, hadr]

theorem s_fieldAddr {t : TypeId} {y : Operand} {i b o off n : Nat} {g : Bool} (h : fldOf P t i = some (off, g, n)) (hn : Nat.blt 0 n = true) (hy : Ev st y (.v (.pointer (some ⟨b, o, none⟩)))) :
    OpS ρ P ⟨d, .fieldAddr t y i, ty, pos, aft, gd⟩ st V (One (.v (.pointer (some ⟨b, o + off, none⟩))) V) :=
  opS_pure (by intro c h; cases h) fun m a w s k => by
    have hv : a.eval y = .pointer (some ⟨b, o, none⟩) := by simpa [Tr] using hy m a k
    have h0 : n ≠ 0 := by have : 0 < n := by simpa [Nat.blt_eq] using hn
                          omega
    exact ⟨.pointer (some ⟨b, o + off, none⟩), w, by simp only [execOp, hv, Sem.run_bind, run_fieldAt h h0, Result.andThen, Sem.run_pure], rfl, by simp [Tr]⟩

/-- A field of what never changes. -/
theorem s_fieldAddrr {t : TypeId} {y : Operand} {i off n : Nat} {g : Bool} {cs : List AVal} {x : AVal} (h : fldOf P t i = some (off, g, n)) (hn : Nat.blt 0 n = true) (hy : Ev st y (.ref (.agg cs)))
    (hx : rdc g n cs off = some x) (hx1 : g = false → x.one = true) :
    OpS ρ P ⟨d, .fieldAddr t y i, ty, pos, aft, gd⟩ st V (One (.ref x) V) :=
  opS_pure (by intro c h; cases h) fun m a w s k => by
    have hv := hy m a k
    have h0 : n ≠ 0 := by have : 0 < n := by simpa [Nat.blt_eq] using hn
                          omega
    simp only [Tr] at hv
    obtain ⟨b, o, ms, u, r, he, hm, hu, hd⟩ := hv
    obtain ⟨vs, rfl, htl⟩ := hu
    refine ⟨.pointer (some ⟨b, o + off, none⟩), w, by simp only [execOp, he, Sem.run_bind, run_fieldAt h h0, Result.andThen, Sem.run_pure], rfl, ?_⟩
    obtain ⟨u', hu', htu⟩ := rdc_rdv htl hx
    have hu'' := hu' []
    simp only [List.append_nil] at hu''
    simp only [Value.cells] at hd
    simp only [Tr]
    have hd' : ms.drop (o + off) = vs.drop off ++ r := by
      rw [← List.drop_drop, hd]
      rw [List.drop_append_of_le_length]
      have := htl.length
      cases g with
      | true =>
        simp only [rdv, if_true] at hu''
        split at hu''
        · omega
        · cases hu''
      | false =>
        simp only [rdv, Bool.false_eq_true, if_false] at hu''
        have := (List.getElem?_eq_some_iff.1 hu'').1
        omega
    cases g with
    | true =>
      simp only [rdv, if_true] at hu''
      split at hu''
      · simp only [Option.some.injEq] at hu''
        subst hu''
        exact ⟨b, o + off, ms, _, (vs.drop off).drop n ++ r, rfl, hm, htu, by rw [hd']; simp only [Value.cells]; rw [← List.append_assoc, List.take_append_drop]⟩
      · cases hu''
    | false =>
      simp only [rdv, Bool.false_eq_true, if_false] at hu''
      have h1 := htu.oneCell (hx1 rfl)
      have hlt := (List.getElem?_eq_some_iff.1 hu'').1
      refine ⟨b, o + off, ms, u', vs.drop (off + 1) ++ r, rfl, hm, htu, ?_⟩
      rw [hd', cells_of_one h1, List.drop_eq_getElem_cons hlt]
      have := (List.getElem?_eq_some_iff.1 hu'').2
      simp [this]

end
end Go.AV
