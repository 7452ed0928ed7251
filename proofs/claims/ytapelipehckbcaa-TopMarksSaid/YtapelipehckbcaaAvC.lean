/- Operations over the abstract view, first part: values, boxes, loads, stores, addresses, numbers. -/
import Derived.Test.YtapelipehckbcaaAvB
import Derived.Laws.Rows
import Derived.Laws.Slices
import Derived.Laws.AppendOwn
import Derived.Tactics
namespace Go.AV
set_option linter.unusedVariables false

def One (x : AVal) (V : View) : AVal → View → Prop := fun x' V' => x' = x ∧ V' = V

theorem Sat.heap {m : Imm} {V : View} {w w' : World} (h : Sat m V w) (e : w'.heap = w.heap) : Sat m V w' :=
  ⟨fun b cs hb => by rw [e]; exact h.imm b cs hb, fun b o hb => by rw [e]; exact h.obj b o hb⟩
theorem Fr.heap (m : Imm) (V : View) {w w' : World} (e : w'.heap = w.heap) (q : Quiet w w') : Fr m V w m V w' := ⟨by rw [e]; exact Nat.le_refl _, Imm.le_refl _, fun _ _ h => ⟨h, by rw [e]⟩, q⟩

section
variable {ρ : Option Nat} {P : Program} {Q : AQ} {st : ASt} {V : View} {o : Oper} {ops : Array Oper} {rest : List Oper}

theorem opS_of_run {Post : AVal → View → Prop} (hdef : ∀ c, o.op ≠ .defer c)
    (h : ∀ (m : Imm) (a : Act) (w : World), Sat m V w → TmpsOK m st a.tmps → ∃ nx w' m' V' x v, (execOp a.eval o).run P w = .ok nx w' ∧ (nx = .value v ∨ (nx = .skip ∧ v = undef)) ∧
      Post x V' ∧ Tr m' x v ∧ Sat m' V' w' ∧ Fr m V w m' V' w') : OpS ρ P o st V Post := by
  intro m a w s t next Q hn
  obtain ⟨nx, w', m', V', x, v, hr, hnx, hp, hx, hs, hf⟩ := h m a w s t
  refine ⟨fun _ _ => trivial, ?_⟩
  rw [Oper.semAt_eq _ _ _ hdef, hr]
  rcases hnx with rfl | ⟨rfl, rfl⟩
  · exact hn _ _ _ _ _ hp hx hs hf
  · exact hn _ _ _ _ _ hp hx hs hf

theorem opS_pure {x : AVal} (hdef : ∀ c, o.op ≠ .defer c)
    (h : ∀ (m : Imm) (a : Act) (w : World), Sat m V w → TmpsOK m st a.tmps → ∃ v w', (execOp a.eval o).run P w = .ok (.value v) w' ∧ w' = w ∧ Tr m x v) : OpS ρ P o st V (One x V) :=
  opS_of_run hdef fun m a w s t => by
    obtain ⟨v, w', hr, hh, hx⟩ := h m a w s t
    subst hh; exact ⟨_, w', m, V, x, v, hr, .inl rfl, ⟨rfl, rfl⟩, hx, s, Fr.refl _ _ _⟩

theorem a_v {d : Tmp} {op : Op} {ty : TypeId} {pos : String} {aft : Array Edge} {l : List (Nat × AVal)} {n : Nat} {x : AVal} (hd : Nat.blt d n = true)
    (ho : OpS ρ P ⟨some d, op, ty, pos, aft, none⟩ ⟨l, n⟩ V (One x V)) (h : AOps ρ P ops Q rest ⟨(d, x) :: l, n⟩ V) :
    AOps ρ P ops Q (⟨some d, op, ty, pos, aft, none⟩ :: rest) ⟨l, n⟩ V :=
  a_op rfl (by simpa [dstOK, Nat.blt_eq] using hd) ho fun x' V' ⟨hx, hV⟩ => by subst hx; subst hV; exact h

theorem a_vp {d : Tmp} {op : Op} {ty : TypeId} {pos : String} {aft : Array Edge} {l : List (Nat × AVal)} {n : Nat} {Post : AVal → View → Prop} (hd : Nat.blt d n = true)
    (ho : OpS ρ P ⟨some d, op, ty, pos, aft, none⟩ ⟨l, n⟩ V Post) (h : ∀ x V', Post x V' → AOps ρ P ops Q rest ⟨(d, x) :: l, n⟩ V') :
    AOps ρ P ops Q (⟨some d, op, ty, pos, aft, none⟩ :: rest) ⟨l, n⟩ V :=
  a_op rfl (by simpa [dstOK, Nat.blt_eq] using hd) ho h

theorem a_s {op : Op} {ty : TypeId} {pos : String} {aft : Array Edge} {x : AVal} {V' : View}
    (ho : OpS ρ P ⟨none, op, ty, pos, aft, none⟩ st V (One x V')) (h : AOps ρ P ops Q rest st V') :
    AOps ρ P ops Q (⟨none, op, ty, pos, aft, none⟩ :: rest) st V :=
  a_op rfl rfl ho fun x' V'' ⟨hx, hV⟩ => by subst hx; subst hV; exact h

theorem a_sp {op : Op} {ty : TypeId} {pos : String} {aft : Array Edge} {Post : AVal → View → Prop}
    (ho : OpS ρ P ⟨none, op, ty, pos, aft, none⟩ st V Post) (h : ∀ x V', Post x V' → AOps ρ P ops Q rest st V') :
    AOps ρ P ops Q (⟨none, op, ty, pos, aft, none⟩ :: rest) st V :=
  a_op rfl rfl ho h

/-! ### What one asks of types -/
def shp (P : Program) (t : TypeId) : Option (Bool × Nat) :=
  (P.underlying t).bind fun d => (P.info? t).map fun i => (match d with | .struct _ | .array _ _ => true | _ => false, i.size)
def fldOf (P : Program) (s : TypeId) (i : Nat) : Option (Nat × Bool × Nat) :=
  match P.underlying s with
  | some (.struct fs) => (fs[i]?).bind fun f => (shp P f.type).map fun x => (f.offset, x)
  | _ => none
def arrOf (P : Program) (t : TypeId) : Option (Nat × Bool × Nat) :=
  match P.underlying t with
  | some (.array n e) => (shp P e).map fun x => (n, x)
  | _ => none
def sliOf (P : Program) (t : TypeId) : Option (TypeId × Bool × Nat) :=
  match P.underlying t with
  | some (.slice e) => (shp P e).map fun x => (e, x)
  | _ => none
def zeroOf (P : Program) (t : TypeId) : Option Value := (P.info? t).bind (·.zero)
def bytesOf (P : Program) (t : TypeId) : Option Nat := (P.info? t).map (·.bytes)

theorem run_isAgg_shp {t : TypeId} {g : Bool} {n : Nat} (h : shp P t = some (g, n)) (w : World) : (isAgg t).run P w = .ok g w ∧ (sizeOf t).run P w = .ok n w := by
  unfold shp at h
  cases hd : P.underlying t with
  | none => simp [hd] at h
  | some d =>
    cases hi : P.info? t with
    | none => simp [hd, hi] at h
    | some i =>
      simp only [hd, hi, Option.bind_some, Option.map_some, Option.some.injEq, Prod.mk.injEq] at h
      obtain ⟨rfl, rfl⟩ := h
      refine ⟨?_, ?_⟩
      · unfold isAgg
        simp only [Sem.run_bind, run_underlying hd, Result.andThen]
        cases d <;> rfl
      · unfold sizeOf typeInfo
        simp [Sem.run_bind, program, Sem.run, hi, Result.andThen, pure]

theorem shp_info {t : TypeId} {g : Bool} {n : Nat} (h : shp P t = some (g, n)) : ∃ d i, P.underlying t = some d ∧ P.info? t = some i ∧ i.size = n ∧ (match d with | .struct _ | .array _ _ => true | _ => false) = g := by
  unfold shp at h
  cases hd : P.underlying t with
  | none => simp [hd] at h
  | some d =>
    cases hi : P.info? t with
    | none => simp [hd, hi] at h
    | some i =>
      simp only [hd, hi, Option.bind_some, Option.map_some, Option.some.injEq, Prod.mk.injEq] at h
      exact ⟨d, i, rfl, rfl, h.2, h.1⟩

/-- What a variable holds: one cell, or several. -/
def rdc (g : Bool) (n : Nat) (cs : List AVal) (off : Nat) : Option AVal :=
  if g then (if off + n ≤ cs.length then some (.agg ((cs.drop off).take n)) else none) else cs[off]?
def rdv (g : Bool) (n : Nat) (cs : List Value) (off : Nat) : Option Value :=
  if g then (if off + n ≤ cs.length then some (.agg ⟨(cs.drop off).take n⟩) else none) else cs[off]?
/-- What a variable holds behind a store. -/
def wrc (cs : List AVal) (off : Nat) (xs : List AVal) : List AVal := cs.take off ++ (xs ++ cs.drop (off + xs.length))

theorem rdc_rdv {m : Imm} {g : Bool} {n : Nat} {cs : List AVal} {us : List Value} {off : Nat} {x : AVal} (h : TrL m cs us) (hx : rdc g n cs off = some x) :
    ∃ u, (∀ r, rdv g n (us ++ r) off = some u) ∧ Tr m x u := by
  cases g with
  | false =>
    simp only [rdc, Bool.false_eq_true, if_false] at hx
    obtain ⟨u, hu, ht⟩ := h.get hx
    refine ⟨u, fun r => ?_, ht⟩
    simp only [rdv, Bool.false_eq_true, if_false]
    rw [List.getElem?_append_left (List.getElem?_eq_some_iff.1 hu).1]; exact hu
  | true =>
    simp only [rdc, if_true] at hx
    split at hx
    · rename_i hle
      simp only [Option.some.injEq] at hx; subst hx
      refine ⟨.agg ⟨(us.drop off).take n⟩, fun r => ?_, ?_⟩
      · have hl := h.length
        simp only [rdv, if_true, List.length_append]
        rw [if_pos (by omega), List.drop_append_of_le_length (by omega), List.take_append_of_le_length (by simp; omega)]
      · simp only [Tr]; exact ⟨_, rfl, (h.drop off).take n⟩
    · cases hx

theorem cell_row {w : World} {b : Nat} {c : Array Value} {T : TypeId} {fr : Nat × Nat} (h : w.heap[b]? = some (.cells c T fr)) (off : Nat) : w.cell? ⟨b, off, none⟩ = c[off]? := by
  simp [World.cell?, h]

theorem run_loadCells_row {w : World} {b : Nat} {c : Array Value} {T : TypeId} {fr : Nat × Nat} (h : w.heap[b]? = some (.cells c T fr)) (off : Nat) :
    ∀ (n i : Nat) (acc : Array Value), off + i + n ≤ c.size → (loadCellsFrom ⟨b, off, none⟩ i n acc).run P w = .ok (acc ++ ((c.toList.drop (off + i)).take n).toArray) w := by
  intro n
  induction n with
  | zero => intro i acc _; simp [loadCellsFrom]
  | succ n ih =>
    intro i acc hle
    have hlt : off + i < c.size := by omega
    have hcell : w.cell? ((⟨b, off, none⟩ : Addr).add i) = some c[off + i] := by
      have : ((⟨b, off, none⟩ : Addr).add i) = ⟨b, off + i, none⟩ := by unfold Addr.add; split <;> simp_all
      rw [this, cell_row h, Array.getElem?_eq_getElem hlt]
    unfold loadCellsFrom
    simp only [Sem.run_bind, load, Sem.run, hcell, Result.andThen]
    rw [ih (i + 1) _ (by omega)]
    have hd : c.toList.drop (off + i) = c[off + i] :: c.toList.drop (off + i + 1) := by
      rw [List.drop_eq_getElem_cons (by simpa using hlt)]; simp
    rw [hd, List.take_succ_cons, ← Nat.add_assoc]
    congr 1
    apply Array.ext'
    simp

theorem run_loadVar_rdv {w : World} {b : Nat} {c : Array Value} {T : TypeId} {fr : Nat × Nat} (h : w.heap[b]? = some (.cells c T fr)) {t : TypeId} {g : Bool} {n off : Nat} {u : Value}
    (hs : shp P t = some (g, n)) (hu : rdv g n c.toList off = some u) : (loadVar t ⟨b, off, none⟩).run P w = .ok u w := by
  obtain ⟨h1, h2⟩ := run_isAgg_shp hs w
  unfold loadVar
  simp only [Sem.run_bind, h1, Result.andThen]
  cases g with
  | false =>
    simp only [rdv, Bool.false_eq_true, if_false] at hu
    have : w.cell? ⟨b, off, none⟩ = some u := by rw [cell_row h]; simpa using hu
    simp [load, Sem.run, this]
  | true =>
    simp only [rdv, if_true] at hu
    split at hu
    · rename_i hle
      simp only [Option.some.injEq] at hu; subst hu
      simp only [if_true, Sem.run_bind, h2, Result.andThen, loadCells]
      rw [run_loadCells_row h off n 0 #[] (by simpa using hle)]
      simp
    · cases hu

theorem s_move {d : Option Tmp} {y : Operand} {ty : TypeId} {pos : String} {aft : Array Edge} {gd : Option (Nat × Bool)} {x : AVal} (hy : Ev st y x) :
    OpS ρ P ⟨d, .move y, ty, pos, aft, gd⟩ st V (One x V) :=
  opS_pure (by intro c h; cases h) fun m a w s t => ⟨a.eval y, w, rfl, rfl, hy m a t⟩
theorem s_assign {d : Option Tmp} {y : Operand} {ty : TypeId} {pos : String} {aft : Array Edge} {gd : Option (Nat × Bool)} {x : AVal} (hy : Ev st y x) :
    OpS ρ P ⟨d, .assign y, ty, pos, aft, gd⟩ st V (One x V) :=
  opS_pure (by intro c h; cases h) fun m a w s t => ⟨a.eval y, w, rfl, rfl, hy m a t⟩

theorem s_load {d : Option Tmp} {y : Operand} {t ty : TypeId} {pos : String} {aft : Array Edge} {gd : Option (Nat × Bool)} {b off n : Nat} {g : Bool} {cs : List AVal} {N : Option Nat} {x : AVal}
    (hs : shp P t = some (g, n)) (hy : Ev st y (.v (.pointer (some ⟨b, off, none⟩)))) (hb : V b = some (.rown cs N)) (hx : rdc g n cs off = some x) :
    OpS ρ P ⟨d, .load t y, ty, pos, aft, gd⟩ st V (One x V) :=
  opS_pure (by intro c h; cases h) fun m a w s k => by
    have hv : a.eval y = .pointer (some ⟨b, off, none⟩) := by simpa [Tr] using hy m a k
    obtain ⟨o', ho, c, T, rfl, ⟨us, r, hc, ht⟩, _⟩ := s.obj b _ hb
    obtain ⟨u, hu, htu⟩ := rdc_rdv ht hx
    refine ⟨u, w, ?_, rfl, htu⟩
    simp only [execOp, hv, Instr.loadAt, Instr.sureAddr, Sem.run_bind, Sem.run_pure, Result.andThen]
    rw [run_loadVar_rdv ho hs (by rw [hc]; exact hu r)]

/-- A load through a pointer to what never changes. -/
theorem s_loadr {d : Option Tmp} {y : Operand} {t ty : TypeId} {pos : String} {aft : Array Edge} {gd : Option (Nat × Bool)} {n : Nat} {g : Bool} {x : AVal}
    (hs : shp P t = some (g, n)) (hn : Nat.blt 0 n = true) (hy : Ev st y (.ref x)) (hx : ∀ (m : Imm) v, Tr m x v → v.cells.size = n ∧ (g = true → ∃ c, v = .agg c) ∧ (g = false → v.cells = #[v])) :
    OpS ρ P ⟨d, .load t y, ty, pos, aft, gd⟩ st V (One x V) :=
  opS_pure (by intro c h; cases h) fun m a w s k => by
    have hv := hy m a k
    simp only [Tr] at hv
    obtain ⟨b, off, cs, u, r, he, hm, hu, hd⟩ := hv
    obtain ⟨_, c, T, fr, r', hh, hc⟩ := s.imm b cs hm
    obtain ⟨x1, x2, x3⟩ := hx m u hu
    have hle : off + n ≤ cs.length := by
      have := congrArg List.length hd
      simp at this
      have h0 : 0 < n := by simpa [Nat.blt_eq] using hn
      omega
    refine ⟨u, w, ?_, rfl, hu⟩
    simp only [execOp, he, Instr.loadAt, Instr.sureAddr, Sem.run_bind, Sem.run_pure, Result.andThen]
    have : rdv g n c.toList off = some u := by
      cases g with
      | true =>
        obtain ⟨cc, rfl⟩ := x2 rfl
        simp only [rdv, if_true]
        rw [if_pos (by rw [hc, List.length_append]; omega), hc, List.drop_append_of_le_length (by omega), List.take_append_of_le_length (by simp; omega), hd]
        simp only [Value.cells] at x1 ⊢
        rw [List.take_append_of_le_length (by simp; omega), List.take_of_length_le (by simp; omega)]
      | false =>
        have x3 := x3 rfl
        rw [x3] at hd x1
        simp at x1; subst x1
        simp only [rdv, Bool.false_eq_true, if_false]
        rw [hc, List.getElem?_append_left (by omega)]
        have := congrArg (·[0]?) hd
        simpa using this
    rw [run_loadVar_rdv hh hs this]

end
end Go.AV
