/- Arguments, as they come in, as abstract values. -/
import Derived.Test.YtapelipehckbcaaAvR
import Derived.OpenShut
namespace Go.AV
set_option linter.unusedVariables false
set_option linter.unusedSimpArgs false
variable {H : Type} {enc : TypeId × Value → H} {P : Program} {W : World}

theorem mapM_get {α β : Type} {f : α → Option β} : ∀ {l : List α} {ys : List β}, l.mapM f = some ys → ∀ (i : Nat) (a : α), l[i]? = some a → ∃ y, f a = some y ∧ ys[i]? = some y
  | [], ys, h, i, a, ha => by simp at ha
  | b :: l, ys, h, i, a, ha => by
    simp only [List.mapM_cons, Option.bind_eq_bind, Option.bind_eq_some_iff, Option.pure_def, Option.some.injEq] at h
    obtain ⟨y, hy, zs, hz, rfl⟩ := h
    cases i with
    | zero => simp at ha; subst ha; exact ⟨y, hy, rfl⟩
    | succ i => simp at ha; obtain ⟨z, h1, h2⟩ := mapM_get hz i a ha; exact ⟨z, h1, by simpa using h2⟩

theorem trod_slice_inv {t e : TypeId} {fuel : Nat} {cs : List Value} {x : DataW H × List MemPlace} (hu : P.underlying t = some (.slice e)) (h : DataW.trod enc P W 0 (fun _ => true) true (fuel + 1) t cs = some x) :
    (cs = [.slice none 0 0] ∧ x.1 = .nil) ∨ ∃ a len cap elems spare, cs = [.slice (some a) len cap] ∧ len ≤ cap ∧ x.1 = .slice elems spare ∧ elems.length = len ∧
      ∀ i, i < len → ∃ cs' y, W.cells? 0 (a.add (i * P.cellsOf e)) (P.cellsOf e) = some cs' ∧ DataW.trod enc P W 0 (fun _ => true) true fuel e cs' = some y := by
  unfold DataW.trod at h
  rw [hu] at h
  split at h
  all_goals first
    | (rename_i heq; cases heq; done)
    | skip
  · rename_i heq
    cases heq
    simp only [Option.some.injEq] at h
    subst h
    exact .inl ⟨rfl, rfl⟩
  · rename_i e' a len cap heq
    cases heq
    simp only at h
    split at h
    · rename_i hl
      simp only [if_true, Option.bind_eq_some_iff, Option.map_eq_some_iff] at h
      obtain ⟨elems, h1, rest, h2, rfl⟩ := h
      have hlen : elems.length = len := by simpa using mapM_len h1
      refine .inr ⟨a, len, cap, _, _, rfl, hl.2.1, rfl, by simpa using hlen, fun i hi => ?_⟩
      obtain ⟨y, hy, _⟩ := mapM_get h1 i i (by simp [hi])
      simp only [Option.bind_eq_some_iff] at hy
      obtain ⟨cs', h3, h4⟩ := hy
      exact ⟨cs', y, h3, h4⟩
    · cases h
  all_goals cases h

theorem cells_imm {a : Addr} {n : Nat} {cs : List Value} (hn : 0 < n) (h : W.cells? 0 a n = some cs) : ∃ b off c, a = ⟨b, off, none⟩ ∧ imm0 W b = some c ∧ cs = (c.drop off).take n ∧ cs.length = n := by
  unfold World.cells? at h
  simp only [Nat.zero_le, if_true] at h
  have hlen : cs.length = n := by simpa using mapM_len h
  have each : ∀ i, i < n → ∃ v, W.cell? (a.add i) = some v ∧ cs[i]? = some v := fun i hi => mapM_get h i i (by simp [hi])
  obtain ⟨b, off, spot⟩ := a
  obtain ⟨v0, hv0, _⟩ := each 0 hn
  have hs : spot = none ∧ ∃ c T fr, W.heap[b]? = some (.cells c T fr) := by
    unfold World.cell? at hv0
    split at hv0
    · split at hv0
      · cases hv0
      · rename_i c T fr hh hs
        exact ⟨by simpa [Addr.add] using hs, c, T, fr, by simpa [Addr.add] using hh⟩
    · cases hv0
  obtain ⟨rfl, c, T, fr, hh⟩ := hs
  refine ⟨b, off, c.toList, rfl, imm0_of hh, ?_, hlen⟩
  apply List.ext_getElem?
  intro i
  by_cases hi : i < n
  · obtain ⟨v, h1, h2⟩ := each i hi
    rw [addr_add, cell_row hh] at h1
    rw [h2, List.getElem?_take_of_lt hi, List.getElem?_drop]
    simpa using h1.symm
  · rw [List.getElem?_eq_none (by omega), List.getElem?_eq_none (by simp; omega)]

theorem TrE_of_get {m : Imm} {sz : Nat} : ∀ {xs : List AVal} {l : List Value}, (∀ i x, xs[i]? = some x → ∃ v r, l.drop (i * sz) = v.cells.toList ++ r ∧ v.cells.size = sz ∧ Tr m x v) → TrE m sz xs l
  | [], _, _ => trivial
  | x :: xs, l, h => by
    obtain ⟨v, r, h1, h2, h3⟩ := h 0 x (by simp)
    simp at h1
    refine ⟨v, r, h1, h2, h3, TrE_of_get fun i y hy => ?_⟩
    obtain ⟨u, r', g1, g2, g3⟩ := h (i + 1) y (by simpa using hy)
    refine ⟨u, r', ?_, g2, g3⟩
    rw [← g1, h1, show (i + 1) * sz = v.cells.toList.length + i * sz by simp [h2, Nat.add_mul]; omega, List.drop_append]
    simp

/-- Elements that are read as values of their own. -/
def ElemOK (enc : TypeId × Value → H) (P : Program) (W : World) (e : TypeId) {α : Type} (good : α → Prop) (R : α → AVal) : Prop :=
  ∀ (fuel : Nat) (cs : List Value) (x : DataW H × List MemPlace), DataW.trod enc P W 0 (fun _ => true) true fuel e cs = some x → ∃ a : α, good a ∧ ∃ u : Value, u.cells.toList = cs ∧ Tr (imm0 W) (R a) u

theorem choose_elems {α : Type} {p : Nat → α → Prop} : ∀ {n : Nat}, (∀ i, i < n → ∃ a, p i a) → ∃ l : List α, l.length = n ∧ ∀ i a, l[i]? = some a → p i a
  | 0, _ => ⟨[], rfl, fun i a h => by simp at h⟩
  | n + 1, h => by
    obtain ⟨l, hl, hp⟩ := choose_elems (n := n) (fun i hi => h i (by omega))
    obtain ⟨a, ha⟩ := h n (by omega)
    refine ⟨l ++ [a], by simp [hl], fun i b hb => ?_⟩
    rcases Nat.lt_or_ge i n with hi | hi
    · rw [List.getElem?_append_left (by omega)] at hb; exact hp i b hb
    · rw [List.getElem?_append_right (by omega)] at hb
      have : i = n := by
        rcases Nat.lt_or_ge n i with h' | h'
        · rw [List.getElem?_eq_none (by simp; omega)] at hb; cases hb
        · omega
      subst this
      simp [hl] at hb; subst hb; exact ha

theorem open_tree {t e : TypeId} {α : Type} {good : α → Prop} {R : α → AVal} {sz : Nat} (hu : P.underlying t = some (.slice e)) (hc : P.cellsOf e = sz) (h0 : 0 < sz) (hE : ElemOK enc P W e good R)
    {fuel : Nat} {cs : List Value} {x : DataW H × List MemPlace} (h : DataW.trod enc P W 0 (fun _ => true) true fuel t cs = some x) :
    ∃ l : List α, (∀ a ∈ l, good a) ∧ ∃ v, cs = [v] ∧ v.cells = #[v] ∧ Tr (imm0 W) (.tree sz (l.map R)) v ∧ (x.1 = .nil ∧ l = [] ∨ ∃ elems spare, x.1 = .slice elems spare ∧ elems.length = l.length) := by
  cases fuel with
  | zero => simp [DataW.trod] at h
  | succ fuel =>
    rcases trod_slice_inv hu h with ⟨rfl, hx⟩ | ⟨a, len, cap, elems, spare, rfl, hlc, hx, hel, each⟩
    · exact ⟨[], (fun a ha => by cases ha), _, rfl, rfl, by simp only [List.map_nil, Tr]; exact ⟨none, 0, rfl, Nat.le_refl _, .inl rfl⟩, .inl ⟨hx, rfl⟩⟩
    · rw [hc] at each
      obtain ⟨l, hl, hp⟩ := choose_elems (p := fun i (b : α) => good b ∧ ∃ (bb off : Nat) (c : List Value) (u : Value), a.add (i * sz) = ⟨bb, off, none⟩ ∧ imm0 W bb = some c ∧ u.cells.toList = (c.drop off).take sz ∧ u.cells.size = sz ∧ Tr (imm0 W) (R b) u) (n := len) (fun i hi => by
        obtain ⟨cs', y, h1, h2⟩ := each i hi
        obtain ⟨b, hb, u, hu1, hu2⟩ := hE _ _ _ h2
        obtain ⟨bb, off, c, e1, e2, e3, e4⟩ := cells_imm h0 h1
        exact ⟨b, hb, bb, off, c, u, e1, e2, by rw [hu1, e3], by rw [← Array.length_toList, hu1, e4], hu2⟩)
      refine ⟨l, fun b hb => ?_, _, rfl, rfl, ?_, .inr ⟨elems, spare, hx, by rw [hel, hl]⟩⟩
      · obtain ⟨i, hi⟩ := List.getElem?_of_mem hb
        exact (hp i b hi).1
      · simp only [Tr]
        refine ⟨some a, cap, by simp [hl], by simp [hl]; omega, ?_⟩
        by_cases hz : len = 0
        · left; simp [hl, hz]
        · right
          obtain ⟨b0, hb0⟩ : ∃ b0, l[0]? = some b0 := ⟨l[0]'(by omega), by simp [List.getElem?_eq_getElem (show 0 < l.length by omega)]⟩
          obtain ⟨_, bb, off, c, u, e1, e2, _⟩ := hp 0 b0 hb0
          obtain ⟨ab, ao, spot⟩ := a
          have hsp : spot = none ∧ ab = bb := by
            simp [Addr.add] at e1
            cases spot with
            | none => exact ⟨rfl, e1.1⟩
            | some s => simp at e1
          obtain ⟨rfl, rfl⟩ := hsp
          refine ⟨ab, ao, c, rfl, e2, TrE_of_get fun i x hx => ?_⟩
          rw [List.getElem?_map] at hx
          cases hli : l[i]? with
          | none => rw [hli] at hx; cases hx
          | some b =>
            rw [hli] at hx
            simp only [Option.map_some, Option.some.injEq] at hx
            subst hx
            obtain ⟨_, bb', off', c', u', g1, g2, g3, g4, g5⟩ := hp i b hli
            rw [addr_add] at g1
            cases g1
            rw [e2] at g2
            cases g2
            refine ⟨u', c.drop (ao + i * sz + sz), ?_, g4, g5⟩
            have e := List.take_append_drop sz (c.drop (ao + i * sz))
            rw [List.drop_drop] at e
            rw [List.drop_drop, g3]
            exact e.symm

theorem elem_int {e : TypeId} {k : IntKind} (hu : P.underlying e = some (.int k)) : ElemOK enc P W e (fun n : Int => (Lit.int k n).wf = true) (fun n => .v (.int k n)) := by
  intro fuel cs x h
  obtain ⟨n, rfl, _, hw⟩ := DataW.trod_int hu h
  exact ⟨n, hw, .int k n, rfl, by simp [Tr]⟩
theorem elem_tree {t e : TypeId} {α : Type} {good : α → Prop} {R : α → AVal} {sz : Nat} (hu : P.underlying t = some (.slice e)) (hc : P.cellsOf e = sz) (h0 : 0 < sz) (hE : ElemOK enc P W e good R) :
    ElemOK enc P W t (fun l : List α => ∀ a ∈ l, good a) (fun l => .tree sz (l.map R)) := by
  intro fuel cs x h
  obtain ⟨l, hl, v, rfl, hv, hT, _⟩ := open_tree hu hc h0 hE h
  exact ⟨l, hl, v, by rw [hv], hT⟩
#print axioms elem_tree
end Go.AV
