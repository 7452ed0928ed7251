/- Operations over the abstract view, fourth part: aggregates and slices that are written out; append; make; slices of slices. -/
import Derived.Test.YtapelipehckbcaaAvG
namespace Go.AV
set_option linter.unusedVariables false

/-! ### Filling -/
def fillA (place : Nat → Option (Nat × Nat)) : List (Nat × AVal) → List AVal → Option (List AVal)
  | [], cs => some cs
  | (i, x) :: r, cs =>
    match place i with
    | none => none
    | some (off, size) => if x.good && Nat.beq x.cells.length size && Nat.ble (off + size) cs.length then fillA place r (wrc cs off x.cells) else none

theorem foldl_set (off : Nat) : ∀ (vs : List Value) (k : Nat) (cells : Array Value), off + k + vs.length ≤ cells.size →
    ((vs.zipIdx k).foldl (fun cs (p : Value × Nat) => cs.setIfInBounds (off + p.2) p.1) cells).toList = cells.toList.take (off + k) ++ (vs ++ cells.toList.drop (off + k + vs.length))
  | [], k, cells, h => by simp
  | v :: vs, k, cells, h => by
    simp only [List.length_cons] at h
    simp only [List.zipIdx_cons, List.foldl_cons]
    rw [foldl_set off vs (k + 1) _ (by simp; omega), Array.toList_setIfInBounds]
    have hlt' : off + k < cells.toList.length := by simp; omega
    rw [show off + (k + 1) = off + k + 1 by omega, List.drop_set_of_lt (by omega), List.take_add_one, List.take_set_of_le (Nat.le_refl _)]
    simp only [List.getElem?_set_self hlt', Option.toList_some, List.append_assoc, List.cons_append, List.nil_append, List.length_cons]
    rw [show off + k + 1 + vs.length = off + k + (vs.length + 1) by omega]

inductive EvP (st : ASt) : List (Nat × Operand) → List (Nat × AVal) → Prop
  | nil : EvP st [] []
  | cons {i : Nat} {y : Operand} {ys : List (Nat × Operand)} {x : AVal} {xs : List (Nat × AVal)} (h : Ev st y x) (k : EvP st ys xs) : EvP st ((i, y) :: ys) ((i, x) :: xs)

theorem fill_ok {m : Imm} {a : Act} {st : ASt} (q : TmpsOK m st a.tmps) {place : Nat → Option (Nat × Nat)} {ys : List (Nat × Operand)} {xs : List (Nat × AVal)} (hy : EvP st ys xs) :
    ∀ {cs cs' : List AVal} {us : Array Value}, TrL m cs us.toList → fillA place xs cs = some cs' → ∃ us', Instr.fill place us (ys.map fun p => (p.1, a.eval p.2)) = some us' ∧ TrL m cs' us'.toList := by
  induction hy with
  | nil => intro cs cs' us h hf; simp only [fillA, Option.some.injEq] at hf; subst hf; exact ⟨us, rfl, h⟩
  | @cons i y ys x xs hx k ih =>
    intro cs cs' us h hf
    simp only [fillA] at hf
    cases hp : place i with
    | none => simp [hp] at hf
    | some os =>
      obtain ⟨off, size⟩ := os
      simp only [hp] at hf
      split at hf
      · rename_i hc
        simp only [Bool.and_eq_true, Nat.beq_eq, Nat.ble_eq] at hc
        obtain ⟨⟨hg, hsz⟩, hle⟩ := hc
        obtain ⟨hcl, hone⟩ := (hx m a q).good hg
        have hl1 := hcl.length
        have hl2 := h.length
        simp only [Array.length_toList] at hl1 hl2
        have hfold : (((a.eval y).cells.zipIdx).foldl (fun cs (p : Value × Nat) => cs.setIfInBounds (off + p.2) p.1) us).toList = us.toList.take off ++ ((a.eval y).cells.toList ++ us.toList.drop (off + x.cells.length)) := by
          rw [← Array.foldl_toList, Array.toList_zipIdx, foldl_set off _ 0 us (by simp; omega)]
          simp [hl1]
        have hnew : TrL m (wrc cs off x.cells) (((a.eval y).cells.zipIdx).foldl (fun cs (p : Value × Nat) => cs.setIfInBounds (off + p.2) p.1) us).toList := by
          rw [hfold]; exact (h.take off).append (hcl.append (h.drop _))
        obtain ⟨us', he, ht⟩ := ih hnew hf
        refine ⟨us', ?_, ht⟩
        simp only [List.map_cons, Instr.fill, hp]
        rw [if_neg (by simp; omega)]
        exact he
      · cases hf

def placesOf (P : Program) (t : TypeId) : Option (List (Nat × Nat)) :=
  match P.underlying t with
  | some (.struct fs) => if fs.toList.all (fun f => (P.info? f.type).isSome) then some (fs.toList.map fun f => (f.offset, P.cellsOf f.type)) else none
  | _ => none

section
variable {ρ : Option Nat} {P : Program} {Q : AQ} {st : ASt} {V : View} {o : Oper} {ops : Array Oper} {rest : List Oper}
  {d : Option Tmp} {ty : TypeId} {pos : String} {aft : Array Edge} {gd : Option (Nat × Bool)}

theorem run_places {w : World} : ∀ (fs : List Field), fs.all (fun f => (P.info? f.type).isSome) = true →
    (fs.mapM (m := Sem) fun f => do pure (f.offset, ← sizeOf f.type)).run P w = .ok (fs.map fun f => (f.offset, P.cellsOf f.type)) w
  | [], _ => by simp
  | f :: fs, h => by
    simp only [List.all_cons, Bool.and_eq_true] at h
    obtain ⟨i, hi⟩ := Option.isSome_iff_exists.1 h.1
    simp only [List.mapM_cons, Sem.run_bind, Sem.run_pure, run_places fs h.2]
    have : (sizeOf f.type).run P w = .ok (P.cellsOf f.type) w := by
      unfold sizeOf typeInfo
      simp [Sem.run_bind, program, Sem.run, hi, Result.andThen, Program.cellsOf, pure]
    simp [this, Result.andThen]

theorem s_build {t : TypeId} {z : Value} {pl : List (Nat × Nat)} {ys : List (Nat × Operand)} {xs : List (Nat × AVal)} {cs : List AVal} (hz : zeroOf P t = some z) (hp : placesOf P t = some pl)
    (hy : EvP st ys xs) (hf : fillA (fun i => pl[i]?) xs (z.cells.toList.map .v) = some cs) : OpS ρ P ⟨d, .build t ⟨ys⟩, ty, pos, aft, gd⟩ st V (One (.agg cs) V) :=
  opS_pure (by intro c h; cases h) fun m a w s q => by
    obtain ⟨us', he, ht⟩ := fill_ok q hy (TrL_exact m z.cells.toList) hf
    unfold placesOf at hp
    split at hp
    · rename_i fs hu
      split at hp
      · rename_i hall
        simp only [Option.some.injEq] at hp
        subst hp
        refine ⟨.agg us', w, ?_, rfl, by simp only [Tr]; exact ⟨us'.toList, rfl, ht⟩⟩
        simp only [execOp, Instr.build, Sem.run_bind, run_zeroOf hz, run_underlying hu, Result.andThen, Sem.run_pure]
        rw [Array.mapM_eq_mapM_toList, map_eq_pure_bind]
        simp only [Sem.run_bind, run_places fs.toList hall, Result.andThen, Sem.run_pure]
        have : (fun x : Nat => (List.map (fun f : Field => (f.offset, P.cellsOf f.type)) fs.toList).toArray[x]?) = fun i : Nat => (List.map (fun f : Field => (f.offset, P.cellsOf f.type)) fs.toList)[i]? := by funext i; simp
        simp only [List.map_toArray] at he ⊢
        rw [this, he]
        rfl
      · cases hp
    · cases hp

theorem s_builda {t : TypeId} {z : Value} {n : Nat} {g : Bool} {sz : Nat} {ys : List (Nat × Operand)} {xs : List (Nat × AVal)} {cs : List AVal} (hz : zeroOf P t = some z) (hp : arrOf P t = some (n, g, sz))
    (hy : EvP st ys xs) (hf : fillA (fun i => some (i * sz, sz)) xs (z.cells.toList.map .v) = some cs) : OpS ρ P ⟨d, .build t ⟨ys⟩, ty, pos, aft, gd⟩ st V (One (.agg cs) V) :=
  opS_pure (by intro c h; cases h) fun m a w s q => by
    obtain ⟨us', he, ht⟩ := fill_ok q hy (TrL_exact m z.cells.toList) hf
    obtain ⟨e, hu, hs⟩ := arrOf_info hp
    refine ⟨.agg us', w, ?_, rfl, by simp only [Tr]; exact ⟨us'.toList, rfl, ht⟩⟩
    simp only [execOp, Instr.build, Sem.run_bind, run_zeroOf hz, run_underlying hu, Result.andThen, Sem.run_pure, (run_isAgg_shp hs w).2]
    simp only [List.map_toArray] at he ⊢
    rw [he]
    rfl

/-! ### Slices written out -/
def zeros (z : Value) (n : Nat) : List Value := (List.range (n * z.cells.size)).map fun i => z.cells.toList[i % z.cells.size]?.getD undef

theorem TrE.of_cells {m : Imm} {sz : Nat} : ∀ {xs : List AVal} {us : List Value}, TrL m (xs.flatMap AVal.cells) us → xs.all (fun x => x.good && Nat.beq x.cells.length sz) = true → ∀ r, TrE m sz xs (us ++ r)
  | [], us, h, _, r => trivial
  | x :: xs, us, h, hx, r => by
    simp only [List.all_cons, Bool.and_eq_true, Nat.beq_eq] at hx
    obtain ⟨⟨hg, hl⟩, hx'⟩ := hx
    simp only [List.flatMap_cons] at h
    have h1 := h.take x.cells.length
    have h2 := h.drop x.cells.length
    rw [List.take_left] at h1
    rw [List.drop_left] at h2
    have hlen := h.length
    simp only [List.length_append] at hlen
    have ih := TrE.of_cells h2 (by simpa [Bool.and_eq_true] using hx') r
    have hsplit : us ++ r = us.take x.cells.length ++ (us.drop x.cells.length ++ r) := by rw [← List.append_assoc, List.take_append_drop]
    simp only [TrE]
    cases x with
    | agg cs =>
      simp only [AVal.cells] at h1 hl hsplit ih hlen
      refine ⟨.agg ⟨us.take cs.length⟩, _, by simpa [Value.cells, AVal.cells] using hsplit, by simp [Value.cells]; omega, ?_, ih⟩
      simp only [Tr]; exact ⟨_, rfl, h1⟩
    | v y =>
      simp only [AVal.cells, List.length_cons, List.length_nil, TrL] at h1 hl hsplit ih
      obtain ⟨u, r', he, hu, rfl⟩ := h1
      refine ⟨u, _, ?_, ?_, hu, ih⟩
      · rw [cells_of_one (hu.oneCell hg)]; rw [he] at hsplit; exact hsplit
      · rw [cells_of_one (hu.oneCell hg)]; simpa using hl
    | tree s2 y =>
      simp only [AVal.cells, List.length_cons, List.length_nil, TrL] at h1 hl hsplit ih
      obtain ⟨u, r', he, hu, rfl⟩ := h1
      refine ⟨u, _, ?_, ?_, hu, ih⟩
      · rw [cells_of_one (hu.oneCell hg)]; rw [he] at hsplit; exact hsplit
      · rw [cells_of_one (hu.oneCell hg)]; simpa using hl
    | ref y =>
      simp only [AVal.cells, List.length_cons, List.length_nil, TrL] at h1 hl hsplit ih
      obtain ⟨u, r', he, hu, rfl⟩ := h1
      refine ⟨u, _, ?_, ?_, hu, ih⟩
      · rw [cells_of_one (hu.oneCell hg)]; rw [he] at hsplit; exact hsplit
      · rw [cells_of_one (hu.oneCell hg)]; simpa using hl
    | tuple cs => cases hg
    | cond c y => cases hg

theorem run_buildSlice {m : Imm} {a : Act} {w : World} (q : TmpsOK m st a.tmps) {t e : TypeId} {g : Bool} {sz len : Nat} {z : Value} {ys : List (Nat × Operand)} {xs : List (Nat × AVal)} {cs : List AVal}
    (ht : sliOf P t = some (e, g, sz)) (hz : zeroOf P e = some z) (hsz : z.cells.size = sz) (hle : Nat.ble (len * sz) 16777216 = true)
    (hy : EvP st ys xs) (hf : fillA (fun i => some (i * sz, sz)) xs ((zeros z len).map .v) = some cs) :
    ∃ us : Array Value, TrL m cs us.toList ∧ (Instr.buildSlice t len ((⟨ys⟩ : Array (Nat × Operand)).map fun p => (p.1, a.eval p.2))).run P w = .ok (.slice (some ⟨w.heap.size, 0, none⟩) len len) (w.alloc (.cells us e)) := by
  obtain ⟨hu, hs⟩ := sliOf_info ht
  have hzero : ((Array.range (len * sz)).map fun i => (if len * sz = 0 then (#[] : Array Value) else z.cells)[i % (if len * sz = 0 then (#[] : Array Value) else z.cells).size]!) = ⟨zeros z len⟩ := by
    by_cases h0 : len * sz = 0
    · have : zeros z len = [] := by simp [zeros, hsz, h0]
      simp [h0, this]
    · simp only [h0, if_false]
      apply Array.ext'
      simp only [zeros, Array.toList_map, Array.toList_range, hsz]
      refine List.map_congr_left fun i hi => ?_
      have hi' : i < len * sz := by simpa using hi
      have hpos : 0 < sz := by rcases Nat.eq_zero_or_pos sz with h | h; · subst h; simp at h0
                               · exact h
      have hlt : i % sz < z.cells.size := by rw [hsz]; exact Nat.mod_lt _ hpos
      rw [getElem!_pos z.cells (i % sz) hlt]
      simp [hlt]
  obtain ⟨us', he, ht'⟩ := fill_ok (us := ⟨zeros z len⟩) q hy (TrL_exact m (zeros z len)) hf
  refine ⟨us', ht', ?_⟩
  have hle' : ¬ len * sz > 2 ^ 24 := by have := Nat.le_of_ble_eq_true hle; omega
  unfold Instr.buildSlice
  simp only [Sem.run_bind, run_underlying hu, Result.andThen, (run_isAgg_shp hs w).2, if_neg hle', Sem.run_pure]
  simp only [List.map_toArray] at he ⊢
  by_cases h0 : len * sz = 0
  · simp only [if_pos h0] at hzero
    simp only [if_pos h0, Sem.run_bind, Sem.run_pure, Result.andThen, hzero, he, newRow, run_newObj_alloc]
  · simp only [if_neg h0] at hzero
    simp only [if_neg h0, Sem.run_bind, run_zeroOf hz, Sem.run_pure, Result.andThen, hzero, he, newRow, run_newObj_alloc]

/-- A slice that is written out whole, and never changes. -/
theorem s_lit {t e : TypeId} {g : Bool} {sz len : Nat} {z : Value} {ys : List (Nat × Operand)} {xs : List (Nat × AVal)} {els : List AVal}
    (ht : sliOf P t = some (e, g, sz)) (hz : zeroOf P e = some z) (hsz : z.cells.size = sz) (hle : Nat.ble (len * sz) 16777216 = true)
    (hy : EvP st ys xs) (hf : fillA (fun i => some (i * sz, sz)) xs ((zeros z len).map .v) = some (els.flatMap AVal.cells)) (hel : els.all (fun x => x.good && Nat.beq x.cells.length sz) = true) (hn : els.length = len) :
    OpS ρ P ⟨d, .buildSlice t len ⟨ys⟩, ty, pos, aft, gd⟩ st V (One (.tree sz els) V) :=
  opS_of_run (by intro c h; cases h) fun m a w s q => by
    obtain ⟨us, htl, hr⟩ := run_buildSlice (w := w) q ht hz hsz hle hy hf
    obtain ⟨s', f, hm⟩ := s.allocImm us e
    refine ⟨.value (.slice (some ⟨w.heap.size, 0, none⟩) len len), _, _, V, _, .slice (some ⟨w.heap.size, 0, none⟩) len len, ?_, .inl rfl, ⟨rfl, rfl⟩, ?_, s', f⟩
    · simp only [execOp, Sem.run_bind, hr, Result.andThen, Sem.run_pure]
    · simp only [Tr]
      refine ⟨_, len, by rw [hn], by omega, .inr ⟨_, 0, _, rfl, hm, ?_⟩⟩
      simpa using TrE.of_cells (TrL.mono f.imm _ _ htl) hel []

/-- A new slice of one's own. -/
def NewSlice (V : View) (len : Nat) (cs : List AVal) (N : Option Nat) : AVal → View → Prop := fun x' V' => ∃ b, V b = none ∧ x' = .v (.slice (some ⟨b, 0, none⟩) len len) ∧ V' = V.set b (.rown cs N)

theorem s_lito {t e : TypeId} {g : Bool} {sz len : Nat} {z : Value} {ys : List (Nat × Operand)} {xs : List (Nat × AVal)} {cs : List AVal}
    (ht : sliOf P t = some (e, g, sz)) (hz : zeroOf P e = some z) (hsz : z.cells.size = sz) (hle : Nat.ble (len * sz) 16777216 = true)
    (hy : EvP st ys xs) (hf : fillA (fun i => some (i * sz, sz)) xs ((zeros z len).map .v) = some cs) :
    OpS ρ P ⟨d, .buildSlice t len ⟨ys⟩, ty, pos, aft, gd⟩ st V (NewSlice V len cs (some cs.length)) :=
  opS_of_run (by intro c h; cases h) fun m a w s q => by
    obtain ⟨us, htl, hr⟩ := run_buildSlice (w := w) q ht hz hsz hle hy hf
    have hok : AObj.OK m (.rown cs (some cs.length)) (.cells us e (0, 0)) := ⟨us, e, rfl, ⟨us.toList, [], by simp, htl⟩, fun k hk => by cases hk; have := htl.length; simpa using this⟩
    obtain ⟨s', f⟩ := s.alloc hok
    refine ⟨.value (.slice (some ⟨w.heap.size, 0, none⟩) len len), _, m, _, _, .slice (some ⟨w.heap.size, 0, none⟩) len len, ?_, .inl rfl, ⟨w.heap.size, s.fresh, rfl, rfl⟩, by simp [Tr], s', f⟩
    simp only [execOp, Sem.run_bind, hr, Result.andThen, Sem.run_pure]

end
end Go.AV
