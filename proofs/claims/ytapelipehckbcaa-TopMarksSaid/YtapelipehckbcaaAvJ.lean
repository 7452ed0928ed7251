/- Guards, and regions whose order is open, over the abstract view. -/
import Derived.Test.YtapelipehckbcaaAvI
import Derived.OrdersIn
namespace Go.AV
set_option linter.unusedVariables false

section
variable {ρ : Option Nat} {P : Program} {Q : AQ} {st : ASt} {V : View} {o : Oper} {ops : Array Oper} {rest : List Oper}

/-- An operation that only gives a value, if its guard wants it. -/
def OpF (ρ : Option Nat) (P : Program) (ops : Array Oper) (o : Oper) (st : ASt) (V : View) (x : AVal) : Prop :=
  ∀ (m : Imm) (a : Act) (w : World), Sat m V w → TmpsOK m st a.tmps → ∀ (next : Act → World → Prop) (Q : Exit → Act → World → Prop),
    (∀ v m' w', Tr m' x v → Sat m' V w' → Fr m V w m' V w' → next (a.put o.dst v) w') →
    if Region.wanted o (yielded ops a.tmps) then o.wpIn (FR ρ) 0 P a w next Q else (∀ f, o.about P w a.eval = some f → (FR ρ).fn f) ∧ next (a.put o.dst undef) w

/-- When a guard wants its operation. -/
def Gd (st : ASt) (ops : Array Oper) (j : Nat) (want : Bool) (G : Prop) : Prop := ∀ (m : Imm) (a : Act), TmpsOK m st a.tmps → (yielded ops a.tmps j = some want ↔ G)

theorem f_plain {x : AVal} (hg : o.guard = none) (h : OpS ρ P o st V (One x V)) : OpF ρ P ops o st V x := by
  intro m a w s t next Q hn
  have : Region.wanted o (yielded ops a.tmps) = true := by simp [Region.wanted, hg]
  rw [if_pos this]
  exact h m a w s t next Q fun v m' w' x' V' ⟨hx, hV⟩ ht s' f => by subst hx; subst hV; exact hn v m' w' ht s' f

theorem f_guard {x : AVal} {j : Nat} {want : Bool} {G : Prop} (hg : o.guard = some (j, want)) (hG : Gd st ops j want G) (h : G → OpS ρ P o st V (One x V)) : OpF ρ P ops o st V (.cond G x) := by
  intro m a w s t next Q hn
  have hw : Region.wanted o (yielded ops a.tmps) = true ↔ G := by
    rw [← hG m a t]; simp [Region.wanted, hg]
  by_cases hGG : G
  · rw [if_pos (hw.2 hGG)]
    exact h hGG m a w s t next Q fun v m' w' x' V' ⟨hx, hV⟩ ht s' f => by
      subst hx; subst hV
      exact hn v m' w' (by simp only [Tr]; exact .inl ⟨hGG, ht⟩) s' f
  · rw [if_neg (fun e => hGG (hw.1 e))]
    exact ⟨fun _ _ => trivial, hn undef m w (by simp only [Tr]; exact .inr ⟨hGG, trivial⟩) s (Fr.refl _ _ _)⟩

theorem gd_b {j : Nat} {want b : Bool} {t : Tmp} (hj : (ops[j]?).bind (·.dst) = some t) (h : Ev st (.tmp t) (.v (.bool b))) : Gd st ops j want (b = want) := by
  intro m a q
  have hv : a.eval (.tmp t) = .bool b := by simpa [Tr] using h m a q
  have hv' : a.tmps[t]? = some (.bool b) := by
    simp only [Act.eval, Array.getD_eq_getD_getElem?] at hv
    cases e : a.tmps[t]? with
    | none => rw [e] at hv; cases hv
    | some u => rw [e] at hv; simp at hv; rw [hv]
  simp [yielded, hj, hv']
theorem gd_c {j : Nat} {want b : Bool} {c : Prop} {t : Tmp} (hj : (ops[j]?).bind (·.dst) = some t) (h : Ev st (.tmp t) (.cond c (.v (.bool b)))) : Gd st ops j want (c ∧ b = want) := by
  intro m a q
  have hv := h m a q
  simp only [Tr] at hv
  simp only [yielded, hj, Option.bind_some]
  have hd : ∀ u, a.eval (.tmp t) = u → u ≠ undef → a.tmps[t]? = some u := by
    intro u hu hne
    simp only [Act.eval, Array.getD_eq_getD_getElem?] at hu
    cases e : a.tmps[t]? with
    | none => rw [e] at hu; exact absurd hu.symm hne
    | some u' => rw [e] at hu; simp at hu; rw [hu]
  rcases hv with ⟨hc, hv⟩ | ⟨hc, hv⟩
  · rw [hd _ hv (by simp [undef])]
    simp [hc]
  · constructor
    · intro h
      exfalso
      simp only [Act.eval, Array.getD_eq_getD_getElem?] at hv
      cases e : a.tmps[t]? with
      | none => rw [e] at h; simp at h
      | some u' => rw [e] at hv h; simp at hv; subst hv; simp [undef] at h
    · intro h; exact absurd h.1 hc

/-- An operation with or without a guard, in the order of the text. -/
theorem a_f {d : Tmp} {op : Op} {ty : TypeId} {pos : String} {aft : Array Edge} {gd : Option (Nat × Bool)} {l : List (Nat × AVal)} {n : Nat} {x : AVal} (hd : Nat.blt d n = true)
    (ho : OpF ρ P ops ⟨some d, op, ty, pos, aft, gd⟩ ⟨l, n⟩ V x) (h : AOps ρ P ops Q rest ⟨(d, x) :: l, n⟩ V) :
    AOps ρ P ops Q (⟨some d, op, ty, pos, aft, gd⟩ :: rest) ⟨l, n⟩ V := by
  intro B m a w s t df
  have hd' : dstOK (some d) n = true := by simpa [dstOK, Nat.blt_eq] using hd
  refine wpListIn_step fun K hK => ho m a w s t K _ fun v m' w' hx s' f => hK _ _ ?_
  have := h B m' (a.put (some d) v) w' s' ((t.mono f.imm).put (st := ⟨l, n⟩) hd' hx) (df.fr f)
  exact a_op.wpListIn_mono (conc_later f) _ _ _ this

/-! ### Open orders -/
def ASt.only (st : ASt) (ops : Array Oper) (o : Oper) : ASt := ⟨st.tmps.filter fun p => (o.looksAt ops).contains p.1, st.n⟩

theorem lookup_filter (f : Nat → Bool) : ∀ (l : List (Nat × AVal)) (t : Nat), (l.filter fun p => f p.1).lookup t = if f t then l.lookup t else none
  | [], t => by simp
  | (k, x) :: l, t => by
    by_cases hk : f k = true
    · simp only [List.filter_cons, hk, if_true, List.lookup_cons]
      by_cases he : t = k
      · subst he; simp [hk]
      · have : (t == k) = false := by simpa using he
        simp only [this]; exact lookup_filter f l t
    · simp only [List.filter_cons, hk, Bool.false_eq_true, if_false, List.lookup_cons]
      rw [lookup_filter f l t]
      by_cases he : t = k
      · subst he; simp [hk]
      · have : (t == k) = false := by simpa using he
        simp [this]

theorem only_lookup {t : Nat} {x : AVal} : (st.only ops o).tmps.lookup t = some x ↔ (o.looksAt ops).contains t = true ∧ st.tmps.lookup t = some x := by
  simp only [ASt.only, lookup_filter (fun k => (o.looksAt ops).contains k)]
  split <;> simp_all

theorem ev_o {t : Nat} {x : AVal} (hm : (o.looksAt ops).contains t = true) (h : st.tmps.lookup t = some x) : Ev (st.only ops o) (.tmp t) x := ev_t (only_lookup.2 ⟨hm, h⟩)

def waits (ops : Array Oper) (i j : Nat) : Bool := ((ops[j]?).map fun o => o.after.toList.any fun e => Region.binds .any e && e.on == i).getD false
def fullB (ops : Array Oper) (j : Nat) : Bool := (List.range j).all fun i => waits ops i j || (List.range j).any fun k => waits ops i k && waits ops k j
/-- A guard that is known to want its operation, or none. -/
def GdOK (ops : Array Oper) (o : Oper) (st : ASt) : Prop := o.guard = none ∨ ∃ j want G, o.guard = some (j, want) ∧ Gd st ops j want G ∧ G
theorem GdOK.wanted {st : ASt} (h : GdOK ops o st) {m : Imm} {a : Act} (t : TmpsOK m st a.tmps) : Region.wanted o (yielded ops a.tmps) = true := by
  rcases h with hg | ⟨j, want, G, hg, hG, g⟩
  · simp [Region.wanted, hg]
  · have := (hG m a t).2 g
    simp [Region.wanted, hg, this]
def DrawIn (ρ : Option Nat) (P : Program) (ops : Array Oper) : View → AQ → List (Oper × Bool) → ASt → View → Prop
  | _, Q, [], st, V => Q .normal st V
  | U, Q, (o, false) :: r, st, V => ∃ x, (∀ V', U.le V' → OpF ρ P ops o (st.only ops o) V' x) ∧ DrawIn ρ P ops U Q r (st.put o.dst x) V
  | U, Q, (o, true) :: r, st, V => GdOK ops o (st.only ops o) ∧ OpS ρ P o (st.only ops o) V fun x V' => ∃ U', (U' = U ∨ fullB ops (ops.size - r.length - 1) = true) ∧ U'.le V' ∧ DrawIn ρ P ops U' Q r (st.put o.dst x) V'

/-- Operation j waits for operation i, whatever the order. -/

def drawB (ops : Array Oper) (es : List Bool) (n : Nat) : Bool :=
  (List.range ops.size).all fun j =>
    match ops[j]? with
    | none => true
    | some oj =>
      dstOK oj.dst n && (oj.after.toList.all fun e => !Region.binds .any e || Nat.blt e.on j) &&
      (List.range ops.size).all fun i =>
        match ops[i]? with
        | none => true
        | some oi =>
          (match oi.dst with
            | none => true
            | some t => (Nat.beq i j || !(oj.dst == some t)) && (!(oj.looksAt ops).contains t || (if Nat.blt i j then waits ops i j else !Nat.beq i j && waits ops j i))) &&
          (!(es[i]?.getD true) || !Nat.blt i j || (waits ops i j || (List.range j).any fun k => Nat.blt i k && waits ops k j))

/-- What the check says. -/
structure DrawOK (ops : Array Oper) (es : List Bool) (n : Nat) : Prop where
  dst : ∀ (j : Nat) (oj : Oper), ops[j]? = some oj → dstOK oj.dst n = true
  deps : ∀ (j : Nat) (oj : Oper), ops[j]? = some oj → ∀ e ∈ oj.after, Region.binds .any e = true → e.on < j
  apart : ∀ (i j : Nat) (oi oj : Oper) (t : Tmp), ops[i]? = some oi → ops[j]? = some oj → oi.dst = some t → oj.dst = some t → i = j
  before : ∀ (i j : Nat) (oi oj : Oper) (t : Tmp), ops[i]? = some oi → ops[j]? = some oj → oi.dst = some t → t ∈ oj.looksAt ops → i < j → waits ops i j = true
  behind : ∀ (i j : Nat) (oi oj : Oper) (t : Tmp), ops[i]? = some oi → ops[j]? = some oj → oi.dst = some t → t ∈ oj.looksAt ops → ¬ i < j → i ≠ j ∧ waits ops j i = true
  bar : ∀ (i j : Nat) (oj : Oper), es[i]? = some true → ops[j]? = some oj → i < j → i < ops.size → waits ops i j = true ∨ ∃ k, i < k ∧ k < j ∧ waits ops k j = true

theorem drawB_ok {es : List Bool} {n : Nat} (h : drawB ops es n = true) : DrawOK ops es n := by
  unfold drawB at h
  rw [List.all_eq_true] at h
  have key : ∀ (j : Nat) (oj : Oper), ops[j]? = some oj → (dstOK oj.dst n = true ∧ (∀ e ∈ oj.after.toList, (!Region.binds .any e || Nat.blt e.on j) = true)) ∧ ∀ i ∈ List.range ops.size,
        (match ops[i]? with
        | none => true
        | some oi =>
          (match oi.dst with
            | none => true
            | some t => (Nat.beq i j || !(oj.dst == some t)) && (!(oj.looksAt ops).contains t || (if Nat.blt i j then waits ops i j else !Nat.beq i j && waits ops j i))) &&
          (!(es[i]?.getD true) || !Nat.blt i j || (waits ops i j || (List.range j).any fun k => Nat.blt i k && waits ops k j))) = true := fun j oj hj => by
    have := h j (List.mem_range.2 (Array.getElem?_eq_some_iff.1 hj).1)
    simp only [hj, Bool.and_eq_true, List.all_eq_true] at this
    exact this
  have key2 : ∀ (i j : Nat) (oi oj : Oper), ops[i]? = some oi → ops[j]? = some oj →
          ((match oi.dst with
            | none => true
            | some t => (Nat.beq i j || !(oj.dst == some t)) && (!(oj.looksAt ops).contains t || (if Nat.blt i j then waits ops i j else !Nat.beq i j && waits ops j i))) = true ∧
          (!(es[i]?.getD true) || !Nat.blt i j || (waits ops i j || (List.range j).any fun k => Nat.blt i k && waits ops k j)) = true) := fun i j oi oj hi hj => by
    have := (key j oj hj).2 i (List.mem_range.2 (Array.getElem?_eq_some_iff.1 hi).1)
    simp only [hi, Bool.and_eq_true] at this
    exact this
  refine ⟨fun j oj hj => (key j oj hj).1.1, fun j oj hj e he hb => ?_, fun i j oi oj t hi hj hdi hdj => ?_, fun i j oi oj t hi hj hdi ht hij => ?_, fun i j oi oj t hi hj hdi ht hij => ?_, fun i j oj he hj hij hi => ?_⟩
  · have := (key j oj hj).1.2 e (by simpa using he)
    simpa [hb, Nat.blt_eq] using this
  · have := (key2 i j oi oj hi hj).1
    simp only [hdi, Bool.and_eq_true] at this
    have := this.1
    simp only [hdj, Bool.or_eq_true, Nat.beq_eq] at this
    rcases this with h | h
    · exact h
    · simp at h
  · have := (key2 i j oi oj hi hj).1
    simp only [hdi, Bool.and_eq_true] at this
    have := this.2
    have hb : Nat.blt i j = true := by simpa [Nat.blt_eq] using hij
    simpa [ht, hb] using this
  · have := (key2 i j oi oj hi hj).1
    simp only [hdi, Bool.and_eq_true] at this
    have := this.2
    have hb : Nat.blt i j = false := by
      cases e : Nat.blt i j with
      | false => rfl
      | true => exact absurd (by simpa [Nat.blt_eq] using e) hij
    have hb2 : Nat.beq i j = false ∧ waits ops j i = true := by simpa [ht, hb] using this
    refine ⟨fun e => ?_, hb2.2⟩
    have := hb2.1
    subst e
    simp at this
  · obtain ⟨oi, hoi⟩ : ∃ oi, ops[i]? = some oi := ⟨ops[i], Array.getElem?_eq_getElem hi⟩
    have := (key2 i j oi oj hoi hj).2
    have hb : Nat.blt i j = true := by simpa [Nat.blt_eq] using hij
    simp only [he, hb, Option.getD_some, Bool.not_true, Bool.false_or, Bool.or_eq_true, List.any_eq_true, List.mem_range, Bool.and_eq_true, Nat.blt_eq] at this
    rcases this with h | ⟨k, h1, h2, h3⟩
    · exact .inl h
    · exact .inr ⟨k, h2, h1, h3⟩

theorem waits_listed {listed : Array Bool} {i j : Nat} (h : waits ops i j = true) (hr : j ∈ Region.ready .any ops listed) : listed.getD i false = true := by
  obtain ⟨_, oj, hj, hall⟩ := mem_ready.1 hr
  simp only [waits, hj, Option.map_some, Option.getD_some, List.any_eq_true] at h
  obtain ⟨e, he, hb⟩ := h
  simp only [Bool.and_eq_true, beq_iff_eq] at hb
  rw [← hb.2]
  exact hall e (by simpa using he) hb.1

theorem DrawOK.barred {es : List Bool} {n : Nat} (ok : DrawOK ops es n) {listed : Array Bool} (hc : ∀ i j, listed.getD j false = true → waits ops i j = true → listed.getD i false = true) {i : Nat} (hi : i < ops.size) (he : es[i]? = some true) :
    ∀ (j : Nat), j < ops.size → i < j → (∀ k, waits ops k j = true → listed.getD k false = true) → listed.getD i false = true := by
  intro j
  induction j using Nat.strongRecOn with
  | _ j ih =>
    intro hj hij hp
    rcases ok.bar i j ops[j] he (Array.getElem?_eq_getElem hj) hij hi with h | ⟨k, h1, h2, h3⟩
    · exact hp i h
    · exact ih k h2 (by omega) h1 fun k' hk' => hc k' k (hp k h3) hk'

/-- An operation that floats: where it stands, the temporaries as the text has them there, what it gives. -/
structure Float where
  i : Nat
  env : ASt
  x : AVal

def Reads (m : Imm) (a : Array Value) (t : Tmp) (z : AVal) : Prop := ∃ v, a[t]? = some v ∧ Tr m z v
def pend (ops : Array Oper) (Fl : List Float) (j t : Nat) : Prop := ∃ f ∈ Fl, f.i < j ∧ ∃ oi, ops[f.i]? = some oi ∧ oi.dst = some t

structure Inv (ρ : Option Nat) (P : Program) (ops : Array Oper) (es : List Bool) (U : View) (Q : AQ) (listed : Array Bool) (q : Nat) (Fl : List Float) (st : ASt) (V : View) (m : Imm) (a : Array Value) : Prop where
  un : ∀ j, j < ops.size → (listed.getD j false = false ↔ (q ≤ j ∨ ∃ f ∈ Fl, f.i = j))
  lt : ∀ f ∈ Fl, f.i < q
  nd : (Fl.map (·.i)).Nodup
  fact : ∀ f ∈ Fl, ∃ o, ops[f.i]? = some o ∧ ∀ V', U.le V' → OpF ρ P ops o (f.env.only ops o) V' f.x
  size : a.size = st.n
  sizes : ∀ f ∈ Fl, f.env.n = st.n
  env : ∀ f ∈ Fl, ∀ o, ops[f.i]? = some o → ∀ t z, f.env.tmps.lookup t = some z → t ∈ o.looksAt ops → pend ops Fl f.i t ∨ Reads m a t z
  rest : ∀ t z, st.tmps.lookup t = some z → pend ops Fl q t ∨ Reads m a t z
  val : ∀ f ∈ Fl, ∀ o t, ops[f.i]? = some o → o.dst = some t → (∀ g ∈ Fl, f.i < g.i → ∀ z, g.env.tmps.lookup t = some z → z = f.x) ∧ ∀ z, st.tmps.lookup t = some z → z = f.x
  draw : DrawIn ρ P ops U Q ((ops.toList.zip es).drop q) st V
  closed : ∀ i j, listed.getD j false = true → waits ops i j = true → listed.getD i false = true

end
end Go.AV
