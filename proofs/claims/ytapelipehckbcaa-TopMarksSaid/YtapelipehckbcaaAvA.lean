/- The abstract view: values as trees, memory as a map of owned blocks over blocks that never change. Definitions and their plain laws. -/
import Derived.RangeFuncRecord
import Derived.TacticsIn
namespace Go.AV

/-- A value as one sees it: as it is; cells; several results; a slice whose elements never change; a pointer to what never changes; what is there if a test says so. -/
inductive AVal where
  | v (x : Value)
  | agg (cs : List AVal)
  | tuple (cs : List AVal)
  | tree (sz : Nat) (xs : List AVal)
  | ref (x : AVal)
  | cond (c : Prop) (x : AVal)

instance : Inhabited AVal := ⟨.v undef⟩

/-- Blocks that never change any more: their first cells. -/
abbrev Imm := Nat → Option (List Value)

mutual
def Tr (m : Imm) : AVal → Value → Prop
  | .v x, v => v = x
  | .agg cs, v => ∃ vs, v = .agg ⟨vs⟩ ∧ TrL m cs vs
  | .tuple cs, v => ∃ vs, v = .tuple ⟨vs⟩ ∧ TrL m cs vs
  | .tree sz xs, v => ∃ a cap, v = .slice a xs.length cap ∧ xs.length ≤ cap ∧
      (xs.length = 0 ∨ ∃ b off cs, a = some ⟨b, off, none⟩ ∧ m b = some cs ∧ TrE m sz xs (cs.drop off))
  | .ref x, v => ∃ b off cs u r, v = .pointer (some ⟨b, off, none⟩) ∧ m b = some cs ∧ Tr m x u ∧ cs.drop off = u.cells.toList ++ r
  | .cond c x, v => (c ∧ Tr m x v) ∨ (¬ c ∧ v = undef)
def TrL (m : Imm) : List AVal → List Value → Prop
  | [], vs => vs = []
  | x :: xs, vs => ∃ v r, vs = v :: r ∧ Tr m x v ∧ TrL m xs r
def TrE (m : Imm) (sz : Nat) : List AVal → List Value → Prop
  | [], _ => True
  | x :: xs, vs => ∃ v r, vs = v.cells.toList ++ r ∧ v.cells.size = sz ∧ Tr m x v ∧ TrE m sz xs r
end

def Imm.le (m m' : Imm) : Prop := ∀ b cs, m b = some cs → m' b = some cs
theorem Imm.le_refl (m : Imm) : m.le m := fun _ _ h => h
theorem Imm.le_trans {a b c : Imm} (h : a.le b) (k : b.le c) : a.le c := fun _ _ x => k _ _ (h _ _ x)

mutual
theorem Tr.mono {m m' : Imm} (h : m.le m') : ∀ (x : AVal) (v : Value), Tr m x v → Tr m' x v
  | .v _, _, hx => by simpa [Tr] using hx
  | .agg cs, v, hx => by
    simp only [Tr] at hx ⊢; obtain ⟨vs, e, k⟩ := hx; exact ⟨vs, e, TrL.mono h cs vs k⟩
  | .tuple cs, v, hx => by
    simp only [Tr] at hx ⊢; obtain ⟨vs, e, k⟩ := hx; exact ⟨vs, e, TrL.mono h cs vs k⟩
  | .tree sz xs, v, hx => by
    simp only [Tr] at hx ⊢
    obtain ⟨a, cap, e, hc, k⟩ := hx
    refine ⟨a, cap, e, hc, ?_⟩
    rcases k with k | ⟨b, off, cs, ea, hm, k⟩
    · exact .inl k
    · exact .inr ⟨b, off, cs, ea, h _ _ hm, TrE.mono h sz xs _ k⟩
  | .ref x, v, hx => by
    simp only [Tr] at hx ⊢; obtain ⟨b, off, cs, u, r, e, hm, k, hd⟩ := hx; exact ⟨b, off, cs, u, r, e, h _ _ hm, Tr.mono h x u k, hd⟩
  | .cond c x, v, hx => by
    simp only [Tr] at hx ⊢
    rcases hx with ⟨hc, k⟩ | k
    · exact .inl ⟨hc, Tr.mono h x v k⟩
    · exact .inr k
theorem TrL.mono {m m' : Imm} (h : m.le m') : ∀ (xs : List AVal) (vs : List Value), TrL m xs vs → TrL m' xs vs
  | [], vs, hx => by simpa [TrL] using hx
  | x :: xs, vs, hx => by
    simp only [TrL] at hx ⊢; obtain ⟨v, r, e, k, k'⟩ := hx; exact ⟨v, r, e, Tr.mono h x v k, TrL.mono h xs r k'⟩
theorem TrE.mono {m m' : Imm} (h : m.le m') (sz : Nat) : ∀ (xs : List AVal) (vs : List Value), TrE m sz xs vs → TrE m' sz xs vs
  | [], vs, _ => by simp [TrE]
  | x :: xs, vs, hx => by
    simp only [TrE] at hx ⊢; obtain ⟨v, r, e, hz, k, k'⟩ := hx; exact ⟨v, r, e, hz, Tr.mono h x v k, TrE.mono h sz xs r k'⟩
end

theorem TrL.length {m : Imm} : ∀ {xs : List AVal} {vs : List Value}, TrL m xs vs → vs.length = xs.length
  | [], vs, h => by simp only [TrL] at h; simp [h]
  | x :: xs, vs, h => by
    simp only [TrL] at h; obtain ⟨v, r, rfl, _, k⟩ := h; simp [TrL.length k]
theorem TrL.get {m : Imm} : ∀ {xs : List AVal} {vs : List Value}, TrL m xs vs → ∀ {i : Nat} {x : AVal}, xs[i]? = some x → ∃ v, vs[i]? = some v ∧ Tr m x v
  | [], vs, h, i, x, hx => by simp at hx
  | y :: xs, vs, h, i, x, hx => by
    simp only [TrL] at h; obtain ⟨v, r, rfl, hv, k⟩ := h
    cases i with
    | zero => simp at hx; subst hx; exact ⟨v, by simp, hv⟩
    | succ i => simp at hx; obtain ⟨u, hu, h'⟩ := TrL.get k hx; exact ⟨u, by simpa using hu, h'⟩
theorem TrL.append {m : Imm} : ∀ {xs ys : List AVal} {vs us : List Value}, TrL m xs vs → TrL m ys us → TrL m (xs ++ ys) (vs ++ us)
  | [], ys, vs, us, h, k => by simp only [TrL] at h; subst h; simpa using k
  | x :: xs, ys, vs, us, h, k => by
    simp only [TrL] at h; obtain ⟨v, r, rfl, hv, h'⟩ := h
    simp only [List.cons_append, TrL]; exact ⟨v, r ++ us, rfl, hv, TrL.append h' k⟩
theorem TrL.take {m : Imm} : ∀ (n : Nat) {xs : List AVal} {vs : List Value}, TrL m xs vs → TrL m (xs.take n) (vs.take n)
  | 0, xs, vs, h => by simp [TrL]
  | n + 1, [], vs, h => by simp only [TrL] at h; subst h; simp [TrL]
  | n + 1, x :: xs, vs, h => by
    simp only [TrL] at h; obtain ⟨v, r, rfl, hv, h'⟩ := h
    simp only [List.take_succ_cons, TrL]; exact ⟨v, _, rfl, hv, TrL.take n h'⟩
theorem TrL.drop {m : Imm} : ∀ (n : Nat) {xs : List AVal} {vs : List Value}, TrL m xs vs → TrL m (xs.drop n) (vs.drop n)
  | 0, xs, vs, h => by simpa using h
  | n + 1, [], vs, h => by simp only [TrL] at h; subst h; simp [TrL]
  | n + 1, x :: xs, vs, h => by
    simp only [TrL] at h; obtain ⟨v, r, rfl, hv, h'⟩ := h
    simpa using TrL.drop n h'

/-- The cells that a value takes. -/
def AVal.cells : AVal → List AVal
  | .agg cs => cs
  | x => [x]

theorem Tr.cells {m : Imm} {x : AVal} {v : Value} (h : Tr m x v) (hx : ∀ c y, x ≠ .cond c y) (hv : ∀ u, x = .v u → u.cells = #[u]) : TrL m x.cells v.cells.toList := by
  cases x with
  | v u => simp only [Tr] at h; subst h; simp [AVal.cells, TrL, Tr, hv v rfl]
  | agg cs => simp only [Tr] at h; obtain ⟨vs, rfl, k⟩ := h; simpa [AVal.cells, Value.cells] using k
  | tuple cs => simp only [Tr] at h; obtain ⟨vs, rfl, k⟩ := h; simp only [AVal.cells, Value.cells, TrL]; exact ⟨_, [], rfl, by simp only [Tr]; exact ⟨vs, rfl, k⟩, rfl⟩
  | tree sz xs => simp only [Tr] at h; obtain ⟨a, cap, rfl, k⟩ := h; simp only [AVal.cells, Value.cells, TrL]; exact ⟨_, [], rfl, by simp only [Tr]; exact ⟨a, cap, rfl, k⟩, rfl⟩
  | ref y => simp only [Tr] at h; obtain ⟨b, off, cs, u, r, rfl, k⟩ := h; simp only [AVal.cells, Value.cells, TrL]; exact ⟨_, [], rfl, by simp only [Tr]; exact ⟨b, off, cs, u, r, rfl, k⟩, rfl⟩
  | cond c y => exact absurd rfl (hx c y)

/-! ### Memory -/
structure ASt where
  tmps : List (Nat × AVal)
  n : Nat

inductive AObj where
  | rown (cs : List AVal) (N : Option Nat)
  | raw (o : Obj)
  | mp (l : List (Value × AVal))
  | loop (s : LoopState) (pend : Option Code) (ps : Array Tmp) (assign body : Code) (st : ASt)

/-- A row of which one does not say how long it is in all. -/
abbrev AObj.row (cs : List AVal) : AObj := .rown cs none

abbrev View := Nat → Option AObj

def View.set (V : View) (b : Nat) (o : AObj) : View := fun i => if i = b then some o else V i
def View.drop (V : View) (b : Nat) : View := fun i => if i = b then none else V i

@[simp] theorem View.set_same (V : View) (b : Nat) (o : AObj) : V.set b o b = some o := by simp [View.set]
theorem View.set_other (V : View) {b i : Nat} (o : AObj) (h : i ≠ b) : V.set b o i = V i := by simp [View.set, h]
@[simp] theorem View.drop_same (V : View) (b : Nat) : V.drop b b = none := by simp [View.drop]
theorem View.drop_other (V : View) {b i : Nat} (h : i ≠ b) : V.drop b i = V i := by simp [View.drop, h]

/-- The temporaries, as far as one knows them. -/
def TmpsOK (m : Imm) (st : ASt) (a : Array Value) : Prop :=
  a.size = st.n ∧ ∀ t x, st.tmps.lookup t = some x → ∃ v, a[t]? = some v ∧ Tr m x v

def notCells : Obj → Prop
  | .cells .. => False
  | _ => True

/-- The entries of a map, as one sees them. -/
def MpL (m : Imm) : List (Value × AVal) → List MapEntry → Prop
  | [], es => es = []
  | (k, x) :: l, es => ∃ e r, es = e :: r ∧ e.key = k ∧ Tr m x e.val ∧ MpL m l r
theorem MpL.mono {m m' : Imm} (h : m.le m') : ∀ {l : List (Value × AVal)} {es : List MapEntry}, MpL m l es → MpL m' l es
  | [], es, k => k
  | (k, x) :: l, es, hx => by
    simp only [MpL] at hx ⊢
    obtain ⟨e, r, e1, e2, e3, e4⟩ := hx
    exact ⟨e, r, e1, e2, e3.mono h, MpL.mono h e4⟩

def AObj.OK (m : Imm) : AObj → Obj → Prop
  | .rown cs N, o => ∃ c T, o = .cells c T (0, 0) ∧ (∃ us r, c.toList = us ++ r ∧ TrL m cs us) ∧ ∀ k, N = some k → c.size = k
  | .raw o', o => o = o' ∧ notCells o
  | .mp l, o => ∃ es clock l', o = .map es clock ∧ l'.Perm l ∧ MpL m l' es.toList ∧ (l.map Prod.fst).Nodup ∧ (es.toList.map (·.born)).Nodup ∧ ∀ e ∈ es.toList, e.born < clock
  | .loop s pend ps assign body st, o => ∃ fn tmps dfr, o = .loop { state := s, pending := pend, fn := fn, tmps := tmps, params := ps, assign := assign, body := body, defers := dfr } ∧ TmpsOK m st tmps

/-- A world as one sees it. -/
structure Sat (m : Imm) (V : View) (w : World) : Prop where
  imm : ∀ b cs, m b = some cs → V b = none ∧ ∃ c T fr r, w.heap[b]? = some (.cells c T fr) ∧ c.toList = cs ++ r
  obj : ∀ b o, V b = some o → ∃ o', w.heap[b]? = some o' ∧ o.OK m o'

def Quiet0 (w w' : World) : Prop := w'.os = w.os ∧ w'.output = w.output
def Quiet (w w' : World) : Prop := Quiet0 w w' ∧ ∀ a, w'.frozen? a = w.frozen? a
theorem Quiet0.refl (w : World) : Quiet0 w w := ⟨rfl, rfl⟩
theorem Quiet.refl (w : World) : Quiet w w := ⟨⟨rfl, rfl⟩, fun _ => rfl⟩
theorem Quiet.trans {a b c : World} (h : Quiet a b) (k : Quiet b c) : Quiet a c := ⟨⟨k.1.1.trans h.1.1, k.1.2.trans h.1.2⟩, fun x => (k.2 x).trans (h.2 x)⟩
def plainO : Option Obj → Prop
  | some (.cells _ _ fr) => fr = (0, 0)
  | _ => True
theorem frozen_plain {w : World} {a : Addr} (h : plainO (w.heap[a.block]?)) : w.frozen? a = false := by
  unfold World.frozen?
  split
  · rename_i lo hi he
    rw [he] at h
    simp only [plainO, Prod.mk.injEq] at h
    obtain ⟨rfl, rfl⟩ := h
    simp
  · rfl
theorem frozen_of {w w' : World} (h : ∀ b : Nat, w'.heap[b]? = w.heap[b]? ∨ (plainO (w'.heap[b]?) ∧ plainO (w.heap[b]?))) (a : Addr) : w'.frozen? a = w.frozen? a := by
  rcases h a.block with h | ⟨h1, h2⟩
  · unfold World.frozen?; rw [h]
  · rw [frozen_plain h1, frozen_plain h2]
theorem Quiet.alloc (w : World) {o : Obj} (ho : plainO (some o)) : Quiet w (w.alloc o) := ⟨⟨rfl, rfl⟩, frozen_of fun b => by
  by_cases h : b = w.heap.size
  · subst h
    exact .inr ⟨by rw [World.alloc_heap_new]; exact ho, by simp [plainO]⟩
  · left
    show (w.heap.push o)[b]? = _
    rw [Array.getElem?_push]; simp [h]⟩
theorem Quiet.putObj {w : World} {b : Nat} {o : Obj} (h0 : plainO (w.heap[b]?)) (ho : plainO (some o)) (hlt : b < w.heap.size) : Quiet w (w.putObj b o) := ⟨⟨rfl, rfl⟩, frozen_of fun k => by
  by_cases h : k = b
  · subst h
    exact .inr ⟨by rw [World.putObj_heap_same hlt]; exact ho, h0⟩
  · exact .inl (World.putObj_heap_other h)⟩

/-- What one state leaves of another: nothing that one does not own turns. -/
structure Fr (m : Imm) (V : View) (w : World) (m' : Imm) (V' : View) (w' : World) : Prop where
  size : w.heap.size ≤ w'.heap.size
  imm : m.le m'
  old : ∀ b, b < w.heap.size → V b = none → V' b = none ∧ w'.heap[b]? = w.heap[b]?
  quiet : Quiet w w'

theorem Fr.refl (m : Imm) (V : View) (w : World) : Fr m V w m V w := ⟨Nat.le_refl _, Imm.le_refl _, fun _ _ h => ⟨h, rfl⟩, Quiet.refl _⟩
theorem Fr.trans {m m₁ m₂ : Imm} {V V₁ V₂ : View} {w w₁ w₂ : World} (h : Fr m V w m₁ V₁ w₁) (k : Fr m₁ V₁ w₁ m₂ V₂ w₂) : Fr m V w m₂ V₂ w₂ :=
  ⟨Nat.le_trans h.size k.size, Imm.le_trans h.imm k.imm, fun b hb hV => by
    obtain ⟨h1, h2⟩ := h.old b hb hV
    obtain ⟨k1, k2⟩ := k.old b (Nat.lt_of_lt_of_le hb h.size) h1
    exact ⟨k1, k2.trans h2⟩, h.quiet.trans k.quiet⟩

theorem AObj.OK.plain {m : Imm} {o : AObj} {o' : Obj} (h : o.OK m o') : plainO (some o') := by
  cases o with
  | rown cs N => obtain ⟨c, T, rfl, _⟩ := h; rfl
  | raw x => obtain ⟨he, hx⟩ := h; cases o' <;> first | trivial | exact hx.elim
  | mp l => obtain ⟨es, clock, l', rfl, _⟩ := h; trivial
  | loop s pend ps assign body st => obtain ⟨fn, tmps, dfr, rfl, _⟩ := h; trivial
theorem TmpsOK.mono {m m' : Imm} (h : m.le m') {st : ASt} {a : Array Value} (k : TmpsOK m st a) : TmpsOK m' st a :=
  ⟨k.1, fun t x hx => let ⟨v, hv, ht⟩ := k.2 t x hx; ⟨v, hv, ht.mono h⟩⟩
theorem AObj.OK.mono {m m' : Imm} (h : m.le m') {o : AObj} {o' : Obj} (k : o.OK m o') : o.OK m' o' := by
  cases o with
  | rown cs N => obtain ⟨c, T, e, ⟨us, r, hc, ht⟩, hN⟩ := k; exact ⟨c, T, e, ⟨us, r, hc, ht.mono h⟩, hN⟩
  | raw o => exact k
  | mp l => obtain ⟨es, clock, l', e, hp, hm, hr⟩ := k; exact ⟨es, clock, l', e, hp, hm.mono h, hr⟩
  | loop s pend ps assign body st => obtain ⟨fn, tmps, dfr, e, ht⟩ := k; exact ⟨fn, tmps, dfr, e, ht.mono h⟩

theorem Sat.lt_imm {m : Imm} {V : View} {w : World} (h : Sat m V w) {b : Nat} {cs : List Value} (hb : m b = some cs) : b < w.heap.size := by
  obtain ⟨_, c, T, fr, r, hh, _⟩ := h.imm b cs hb
  exact (Array.getElem?_eq_some_iff.1 hh).1
theorem Sat.lt_obj {m : Imm} {V : View} {w : World} (h : Sat m V w) {b : Nat} {o : AObj} (hb : V b = some o) : b < w.heap.size := by
  obtain ⟨o', hh, _⟩ := h.obj b o hb
  exact (Array.getElem?_eq_some_iff.1 hh).1
theorem Sat.fresh {m : Imm} {V : View} {w : World} (h : Sat m V w) : V w.heap.size = none := by
  cases hV : V w.heap.size with
  | none => rfl
  | some o => have := h.lt_obj hV; omega
theorem Sat.fresh_imm {m : Imm} {V : View} {w : World} (h : Sat m V w) : m w.heap.size = none := by
  cases hV : m w.heap.size with
  | none => rfl
  | some o => have := h.lt_imm hV; omega

/-- What one forgets. -/
theorem Sat.sub {m : Imm} {V V' : View} {w : World} (h : Sat m V w) (hs : ∀ b o, V' b = some o → V b = some o) : Sat m V' w :=
  ⟨fun b cs hb => ⟨by
      have := (h.imm b cs hb).1
      cases hV : V' b with
      | none => rfl
      | some o => (rw [hs b o hV] at this; cases this), (h.imm b cs hb).2⟩,
   fun b o hb => h.obj b o (hs b o hb)⟩

/-- A new block that one owns. -/
theorem Sat.alloc {m : Imm} {V : View} {w : World} (h : Sat m V w) {o : AObj} {o' : Obj} (ho : o.OK m o') :
    Sat m (V.set w.heap.size o) (w.alloc o') ∧ Fr m V w m (V.set w.heap.size o) (w.alloc o') := by
  have hold : ∀ b, b < w.heap.size → (w.alloc o').heap[b]? = w.heap[b]? := by
    intro b hb
    show (w.heap.push o')[b]? = _
    rw [Array.getElem?_push]; simp [Nat.ne_of_lt hb]
  refine ⟨⟨fun b cs hb => ?_, fun b x hb => ?_⟩, ⟨by simp, Imm.le_refl _, fun b hb hV => ⟨?_, hold b hb⟩, Quiet.alloc _ ho.plain⟩⟩
  · have hlt := h.lt_imm hb
    obtain ⟨h1, c, T, fr, r, h2, h3⟩ := h.imm b cs hb
    exact ⟨by rw [View.set_other _ _ (Nat.ne_of_lt hlt)]; exact h1, c, T, fr, r, by rw [hold b hlt]; exact h2, h3⟩
  · by_cases hbb : b = w.heap.size
    · subst hbb
      simp at hb; subst hb
      exact ⟨o', World.alloc_heap_new w o', ho⟩
    · rw [View.set_other _ _ hbb] at hb
      obtain ⟨x', hx, hk⟩ := h.obj b x hb
      exact ⟨x', by rw [hold b (h.lt_obj hb)]; exact hx, hk⟩
  · rw [View.set_other _ _ (Nat.ne_of_lt hb)]; exact hV

/-- A new block that never changes. -/
theorem Sat.allocImm {m : Imm} {V : View} {w : World} (h : Sat m V w) (c : Array Value) (T : TypeId) :
    let m' : Imm := fun b => if b = w.heap.size then some c.toList else m b
    Sat m' V (w.alloc (.cells c T)) ∧ Fr m V w m' V (w.alloc (.cells c T)) ∧ m' w.heap.size = some c.toList := by
  have hold : ∀ b, b < w.heap.size → (w.alloc (.cells c T)).heap[b]? = w.heap[b]? := by
    intro b hb
    show (w.heap.push _)[b]? = _
    rw [Array.getElem?_push]; simp [Nat.ne_of_lt hb]
  have hle : Imm.le m (fun b => if b = w.heap.size then some c.toList else m b) := by
    intro b cs hb
    have := h.lt_imm hb
    simp only [Nat.ne_of_lt this, if_false]; exact hb
  refine ⟨⟨fun b cs hb => ?_, fun b x hb => ?_⟩, ⟨by simp, hle, fun b hb hV => ⟨hV, hold b hb⟩, Quiet.alloc _ rfl⟩, by simp⟩
  · by_cases hbb : b = w.heap.size
    · subst hbb
      simp at hb; subst hb
      exact ⟨h.fresh, c, T, (0, 0), [], World.alloc_heap_new w _, by simp⟩
    · simp only [hbb, if_false] at hb
      have hlt := h.lt_imm hb
      obtain ⟨h1, c', T', fr, r, h2, h3⟩ := h.imm b cs hb
      exact ⟨h1, c', T', fr, r, by rw [hold b hlt]; exact h2, h3⟩
  · obtain ⟨x', hx, hk⟩ := h.obj b x hb
    exact ⟨x', by rw [hold b (h.lt_obj hb)]; exact hx, hk.mono hle⟩

/-- A block that one owns becomes another thing. -/
theorem Sat.put {m : Imm} {V : View} {w : World} (h : Sat m V w) {b : Nat} {o₀ o : AObj} {o' : Obj} (hb : V b = some o₀) (ho : o.OK m o') {w' : World}
    (hs : w'.heap.size = w.heap.size) (hn : w'.heap[b]? = some o') (hk : ∀ k, k ≠ b → w'.heap[k]? = w.heap[k]?) (hq : Quiet0 w w') :
    Sat m (V.set b o) w' ∧ Fr m V w m (V.set b o) w' := by
  refine ⟨⟨fun k cs hm => ?_, fun k x hx => ?_⟩, ⟨by omega, Imm.le_refl _, fun k hlt hV => ?_, hq, frozen_of fun k => by
    by_cases hkb : k = b
    · subst hkb
      obtain ⟨x, hx, hox⟩ := h.obj k _ hb
      exact .inr ⟨by rw [hn]; exact ho.plain, by rw [hx]; exact hox.plain⟩
    · exact .inl (hk k hkb)⟩⟩
  · obtain ⟨h1, c, T, fr, r, h2, h3⟩ := h.imm k cs hm
    have hne : k ≠ b := fun e => by subst e; rw [hb] at h1; cases h1
    exact ⟨by rw [View.set_other _ _ hne]; exact h1, c, T, fr, r, by rw [hk k hne]; exact h2, h3⟩
  · by_cases hkb : k = b
    · subst hkb; simp at hx; subst hx; exact ⟨o', hn, ho⟩
    · rw [View.set_other _ _ hkb] at hx
      obtain ⟨x', hx', ho'⟩ := h.obj k x hx
      exact ⟨x', by rw [hk k hkb]; exact hx', ho'⟩
  · have hne : k ≠ b := fun e => by subst e; rw [hb] at hV; cases hV
    exact ⟨by rw [View.set_other _ _ hne]; exact hV, hk k hne⟩

/-- A row that one owns is left as it is for good: its cells, as they stand, never change. -/
theorem Sat.freeze {m : Imm} {V : View} {w : World} (h : Sat m V w) {b : Nat} {cs : List AVal} {N : Option Nat} (hb : V b = some (.rown cs N)) :
    ∃ us, TrL m cs us ∧
      let m' : Imm := fun k => if k = b then some us else m k
      Sat m' (V.drop b) w ∧ Fr m V w m' (V.drop b) w := by
  obtain ⟨o', ho, c, T, rfl, ⟨us, r, hc, ht⟩, _⟩ := h.obj b _ hb
  refine ⟨us, ht, ?_⟩
  have hmb : m b = none := by
    cases hm : m b with
    | none => rfl
    | some x => have := (h.imm b x hm).1; rw [hb] at this; cases this
  have hle : Imm.le m (fun k => if k = b then some us else m k) := by
    intro k x hx
    have hne : k ≠ b := fun e => by subst e; rw [hmb] at hx; cases hx
    simp only [hne, if_false]; exact hx
  refine ⟨⟨fun k x hx => ?_, fun k x hx => ?_⟩, ⟨Nat.le_refl _, hle, fun k _ hV => ⟨?_, rfl⟩, Quiet.refl _⟩⟩
  · by_cases hkb : k = b
    · subst hkb; simp at hx; subst hx; exact ⟨by simp, c, T, (0, 0), r, ho, hc⟩
    · simp only [hkb, if_false] at hx
      obtain ⟨h1, rest⟩ := h.imm k x hx
      exact ⟨by rw [View.drop_other _ hkb]; exact h1, rest⟩
  · by_cases hkb : k = b
    · subst hkb; simp at hx
    · rw [View.drop_other _ hkb] at hx
      obtain ⟨x', hx', ho'⟩ := h.obj k x hx
      exact ⟨x', hx', ho'.mono hle⟩
  · by_cases hkb : k = b
    · subst hkb; simp
    · rw [View.drop_other _ hkb]; exact hV

end Go.AV
