/- From the world to a view, and what reads as before behind a call. -/
import Derived.Test.YtapelipehckbcaaAvN
import Derived.RowKit3
import Derived.ProofKit
import Derived.OpenShut
namespace Go.AV

/-- All blocks of cells of a world, as they stand. -/
def imm0 (W : World) : Imm := fun b => match W.heap[b]? with
  | some (.cells c _ _) => some c.toList
  | _ => none
def V0 : View := fun _ => none
theorem sat0 (W : World) : Sat (imm0 W) V0 W := ⟨fun b cs h => (by
  unfold imm0 at h
  split at h
  · rename_i c T fr he
    cases h
    exact ⟨rfl, c, T, fr, [], he, by simp⟩
  · cases h), fun b o h => by cases h⟩
theorem imm0_of {W : World} {b : Nat} {c : Array Value} {T : TypeId} {fr : Nat × Nat} (h : W.heap[b]? = some (.cells c T fr)) : imm0 W b = some c.toList := by simp [imm0, h]

theorem grown_of_fr {m m' : Imm} {V' : View} {W W' : World} (f : Fr m V0 W m' V' W') : RowKit.Grown W W' ∧ ∀ b, b < W.heap.size → W'.heap[b]? = W.heap[b]? := by
  have hb : ∀ b, b < W.heap.size → W'.heap[b]? = W.heap[b]? := fun b hb => (f.old b hb rfl).2
  refine ⟨⟨⟨f.quiet.1.1, f.quiet.1.2, fun i hi => ?_⟩, f.quiet.2, f.size⟩, hb⟩
  rw [hb i hi]
  split
  · rename_i h1 h2
    rw [h1] at h2; cases h2
    exact ⟨rfl, rfl, rfl, fun _ _ => rfl⟩
  · rename_i h1 h2
    rw [h1] at h2; cases h2
    exact .inr ⟨rfl, rfl⟩
  · rfl

theorem calls_of_A {P : Program} {f : FuncId} {args : List AVal} {vals : List Value} {u : Value} {W : World} {R : AVal → View → Prop} (h : ACalls P f args V0 R) (ht : TrL (imm0 W) args vals) (hr : ∀ x V', R x V' → x = .v u) :
    Calls P f ⟨vals⟩ W fun e W' => e = .returned u ∧ RowKit.Grown W W' ∧ ∀ b, b < W.heap.size → W'.heap[b]? = W.heap[b]? := by
  refine callsIn_wide.1 (CallsIn.mono (h (imm0 W) W vals (sat0 W) ht) ?_)
  rintro e w' ⟨m', x, V', v, rfl, hv, hR, _, f'⟩
  have := hr x V' hR
  subst this
  simp only [Tr] at hv
  subst hv
  exact ⟨rfl, grown_of_fr f'⟩

section
variable {H : Type} {enc : TypeId × Value → H} {P : Program} {W W' : World} {sp : Nat → Bool} {held : Bool}

theorem cells?_grow (hW : ∀ b, b < W.heap.size → W'.heap[b]? = W.heap[b]?) {a : Addr} {n : Nat} {cs : List Value} (h : W.cells? 0 a n = some cs) : W'.cells? 0 a n = some cs := by
  unfold World.cells? at h ⊢
  simp only [Nat.zero_le, if_true] at h ⊢
  cases n with
  | zero => simpa using h
  | succ n =>
    have hlt : a.block < W.heap.size := by
      have h0 : ∃ v, W.cell? (a.add 0) = some v := by
        rw [List.range_succ_eq_map, List.mapM_cons] at h
        cases hc : W.cell? (a.add 0) with
        | some v => exact ⟨v, rfl⟩
        | none => simp [hc] at h
      obtain ⟨v, hv⟩ := h0
      unfold World.cell? at hv
      have hb : (a.add 0).block = a.block := by unfold Addr.add; split <;> rfl
      rw [hb] at hv
      cases hh : W.heap[a.block]? with
      | none => simp [hh] at hv
      | some o => exact (Array.getElem?_eq_some_iff.1 hh).1
    have : ∀ i, W'.cell? (a.add i) = W.cell? (a.add i) := by
      intro i
      have hb : (a.add i).block = a.block := by unfold Addr.add; split <;> rfl
      unfold World.cell?
      rw [hb, hW _ hlt]
    simpa [this] using h
theorem mapM_imp {α β : Type} {f g : α → Option β} : ∀ {l : List α} {ys : List β}, l.mapM f = some ys → (∀ i y, i ∈ l → f i = some y → y ∈ ys → g i = some y) → l.mapM g = some ys
  | [], ys, h, _ => by simpa using h
  | i :: l, ys, h, hg => by
    simp only [List.mapM_cons, Option.bind_eq_bind, Option.bind_eq_some_iff, Option.pure_def, Option.some.injEq] at h ⊢
    obtain ⟨y, hy, zs, hz, rfl⟩ := h
    exact ⟨y, hg i y List.mem_cons_self hy List.mem_cons_self, zs, mapM_imp hz (fun j z hj hz hm => hg j z (List.mem_cons_of_mem _ hj) hz (List.mem_cons_of_mem _ hm)), rfl⟩

theorem mapM_len {α β : Type} {f : α → Option β} : ∀ {l : List α} {ys : List β}, l.mapM f = some ys → ys.length = l.length
  | [], ys, h => by simp at h; subst h; rfl
  | i :: l, ys, h => by
    simp only [List.mapM_cons, Option.bind_eq_bind, Option.bind_eq_some_iff, Option.pure_def, Option.some.injEq] at h
    obtain ⟨y, hy, zs, hz, rfl⟩ := h
    simp [mapM_len hz]
/-- A type whose parts lie in the table, and no slice of which has elements that take no cell. -/
def tyOK (P : Program) (N t : Nat) : Bool :=
  match P.underlying t with
  | some (.slice e) => P.cellsOf e != 0 && Nat.blt e N
  | some (.struct fs) => fs.all fun f => Nat.blt f.type N
  | some (.array _ e) => Nat.blt e N
  | some (.pointer e) => Nat.blt e N
  | some (.map _ e) => Nat.blt e N
  | _ => true
theorem tyOK_of {P : Program} {N : Nat} (h : (List.range N).all (tyOK P N) = true) (t : Nat) (ht : t < N) : tyOK P N t = true := List.all_eq_true.1 h t (List.mem_range.2 ht)

theorem trod_grow {N : Nat} (hz : ∀ t, t < N → tyOK P N t = true) (hW : ∀ b, b < W.heap.size → W'.heap[b]? = W.heap[b]?) :
    ∀ (fuel : Nat) (t : TypeId) (cs : List Value) (x : DataW H × List MemPlace), t < N → DataW.trod enc P W 0 (fun _ => true) true fuel t cs = some x → (∀ p ∈ x.2, sp p.block = true) → DataW.trod enc P W' 0 sp true fuel t cs = some x := by
  intro fuel
  induction fuel with
  | zero => intro t cs x _ h; simp [DataW.trod] at h
  | succ n ih =>
    intro t cs x ht h hsp
    have hty := hz t ht
    unfold tyOK at hty
    unfold DataW.trod at h ⊢
    split at h
    case h_6 e a heq =>
      rw [heq] at hty
      have hN : e < N := by simpa using hty
      simp only [Option.map_eq_some_iff, Option.bind_eq_some_iff] at h ⊢
      obtain ⟨y, ⟨cs', h1, h2⟩, rfl⟩ := h
      exact ⟨y, ⟨cs', cells?_grow hW h1, ih _ _ _ hN h2 (fun p hp => hsp p (by simp [hp]))⟩, rfl⟩
    case h_8 e a len cap heq =>
      rw [heq] at hty
      simp only [Bool.and_eq_true, Nat.blt_eq, bne_iff_ne] at hty
      have hN := hty.2
      simp only at h ⊢
      split at h
      · rename_i hl
        rw [if_pos hl]
        simp only [if_true, Option.bind_eq_some_iff, Option.map_eq_some_iff] at h ⊢
        obtain ⟨elems, h1, rest, h2, rfl⟩ := h
        have hr : rest.length = cap - len := by
          have := mapM_len h2
          simpa using this
        have he : elems.length = len := by
          have := mapM_len h1
          simpa using this
        refine ⟨elems, mapM_imp h1 (fun i y _ hy hm => ?_), rest, ?_, rfl⟩
        · simp only [Option.bind_eq_some_iff] at hy ⊢
          obtain ⟨cs', g1, g2⟩ := hy
          exact ⟨cs', cells?_grow hW g1, ih _ _ _ hN g2 (fun p hp => hsp p (by
            simp only [List.mem_append, List.mem_flatMap]
            exact .inr ⟨y, .inl hm, hp⟩))⟩
        · by_cases hc : cap = 0
          · have h0 : cap - len = 0 := by omega
            rw [h0] at h2 ⊢
            simp only [List.range_zero, List.mapM_nil] at h2 ⊢
            split
            · exact h2
            · exact h2
          · have hsa : sp a.block = true := by
              have hm : MemPlace.cell a.block a.off ∈ MemPlace.row a ((elems.length + rest.length) * P.cellsOf e) := by
                have h1 : 0 < (elems.length + rest.length) * P.cellsOf e := Nat.mul_pos (by omega) (Nat.pos_of_ne_zero hty.1)
                unfold MemPlace.row
                exact List.mem_map.2 ⟨0, List.mem_range.2 h1, by simp⟩
              exact hsp _ (List.mem_append.2 (.inl hm))
            rw [if_pos hsa]
            refine mapM_imp h2 (fun i y _ hy hm => ?_)
            simp only [Option.bind_eq_some_iff] at hy ⊢
            obtain ⟨cs', g1, g2⟩ := hy
            exact ⟨cs', cells?_grow hW g1, ih _ _ _ hN g2 (fun p hp => hsp p (by
              simp only [List.mem_append, List.mem_flatMap]
              exact .inr ⟨y, .inr hm, hp⟩))⟩
      · cases h
    case h_9 fs heq =>
      rw [heq] at hty
      have hN : ∀ f ∈ fs.toList, f.type < N := fun f hf => by
        have := Array.all_eq_true_iff_forall_mem.1 hty f (by simpa using hf)
        simpa using this
      split at h
      · rename_i hl
        rw [if_pos hl]
        simp only [Option.map_eq_some_iff] at h ⊢
        obtain ⟨ys, h1, rfl⟩ := h
        exact ⟨ys, mapM_imp h1 (fun f y hf hy hm => ih _ _ _ (hN f hf) hy (fun p hp => hsp p (List.mem_flatMap.2 ⟨y, hm, hp⟩))), rfl⟩
      · cases h
    case h_10 m e heq =>
      rw [heq] at hty
      have hN : e < N := by simpa using hty
      split at h
      · rename_i hl
        rw [if_pos hl]
        simp only [Option.map_eq_some_iff] at h ⊢
        obtain ⟨ys, h1, rfl⟩ := h
        exact ⟨ys, mapM_imp h1 (fun f y hf hy hm => ih _ _ _ hN hy (fun p hp => hsp p (List.mem_flatMap.2 ⟨y, hm, hp⟩))), rfl⟩
      · cases h
    case h_12 => exact h
    case h_14 k e b heq =>
      rw [heq] at hty
      have hN : e < N := by simpa using hty
      split at h
      · rename_i es clock hb
        have hlt : b < W.heap.size := (Array.getElem?_eq_some_iff.1 hb).1
        rw [hW b hlt, hb]
        simp only
        split at h
        · rename_i hc
          rw [if_pos hc]
          simp only [Option.bind_eq_some_iff] at h ⊢
          obtain ⟨entries, h1, h2⟩ := h
          refine ⟨entries, mapM_imp h1 (fun i y _ hy hm => ?_), h2⟩
          simp only [Option.bind_eq_some_iff] at hy ⊢
          obtain ⟨key, hk, hy⟩ := hy
          refine ⟨key, hk, ?_⟩
          split at hy
          · rename_i hf
            rw [if_pos hf]
            simp only [Option.map_eq_some_iff] at hy ⊢
            obtain ⟨z, hz', rfl⟩ := hy
            refine ⟨z, ih _ _ _ hN hz' (fun p hp => ?_), rfl⟩
            split at h2
            · cases h2
              exact hsp p (by
                simp only [List.mem_cons, List.mem_flatMap]
                exact .inr ⟨_, hm, hp⟩)
            · cases h2
          · cases hy
        · cases h
      · cases h
    all_goals exact h
theorem Trod_grow {N : Nat} (hz : ∀ t, t < N → tyOK P N t = true) (hW : ∀ b, b < W.heap.size → W'.heap[b]? = W.heap[b]?) {t : TypeId} {v : Value} {d : DataW H} {ps : List MemPlace} (ht : t < N)
    (h : DataW.Trod enc P W 0 (fun _ => true) true t v d ps) (hs : ∀ p ∈ ps, sp p.block = true) : DataW.Trod enc P W' 0 sp true t v d ps := by
  obtain ⟨fuel, hf⟩ := h
  exact ⟨fuel, trod_grow hz hW fuel t _ _ ht hf hs⟩
theorem trodAll_grow {N : Nat} (hz : ∀ t, t < N → tyOK P N t = true) (hW : ∀ b, b < W.heap.size → W'.heap[b]? = W.heap[b]?) :
    ∀ {ts : List TypeId} {vs : List Value} {ds : List (DataW H)} {ps : List MemPlace}, (ts.all fun t => Nat.blt t N) = true → DataW.TrodAll enc P W 0 (fun _ => true) true ts vs ds ps → (∀ p ∈ ps, sp p.block = true) → DataW.TrodAll enc P W' 0 sp true ts vs ds ps
  | [], [], [], ps, _, h, _ => by simpa [DataW.TrodAll] using h
  | t :: ts, v :: vs, d :: ds, ps, ht, h, hs => by
    simp only [DataW.TrodAll] at h ⊢
    simp only [List.all_cons, Bool.and_eq_true, Nat.blt_eq] at ht
    obtain ⟨p, q, h1, h2, rfl⟩ := h
    exact ⟨p, q, Trod_grow hz hW ht.1 h1 (fun x hx => hs x (by simp [hx])), trodAll_grow hz hW (by simpa using ht.2) h2 (fun x hx => hs x (by simp [hx])), rfl⟩
  | [], _ :: _, _, _, _, h, _ => by simp [DataW.TrodAll] at h
  | [], [], _ :: _, _, _, h, _ => by simp [DataW.TrodAll] at h
  | _ :: _, [], _, _, _, h, _ => by simp [DataW.TrodAll] at h
  | _ :: _, _ :: _, [], _, _, h, _ => by simp [DataW.TrodAll] at h
#print axioms trodAll_grow
end
end Go.AV
