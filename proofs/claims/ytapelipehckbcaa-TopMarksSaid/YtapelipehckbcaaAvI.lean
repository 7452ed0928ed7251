/- Operations over the abstract view, fifth part: append, make, slices of slices. -/
import Derived.Test.YtapelipehckbcaaAvH
namespace Go.AV
set_option linter.unusedVariables false

theorem TrE.cells {m : Imm} {sz : Nat} : ∀ {xs : List AVal} {l : List Value}, TrE m sz xs l → xs.all (fun x => x.good && Nat.beq x.cells.length sz) = true → xs.length * sz ≤ l.length ∧ TrL m (xs.flatMap AVal.cells) (l.take (xs.length * sz))
  | [], l, h, _ => by simp [TrL]
  | x :: xs, l, h, hx => by
    simp only [TrE] at h
    obtain ⟨v, r, rfl, hz, hv, k⟩ := h
    simp only [List.all_cons, Bool.and_eq_true, Nat.beq_eq] at hx
    obtain ⟨⟨hg, hl⟩, hx'⟩ := hx
    obtain ⟨hle, ht⟩ := TrE.cells k (by simpa [Bool.and_eq_true] using hx')
    have e : (x :: xs).length * sz = v.cells.toList.length + xs.length * sz := by simp [Nat.add_mul, hz]; omega
    rw [e]
    refine ⟨by simp; omega, ?_⟩
    rw [List.take_length_add_append]
    simp only [List.flatMap_cons]
    exact (hv.good hg).1.append ht

section
variable {ρ : Option Nat} {P : Program} {Q : AQ} {st : ASt} {V : View} {o : Oper} {ops : Array Oper} {rest : List Oper}
  {d : Option Tmp} {ty : TypeId} {pos : String} {aft : Array Edge} {gd : Option (Nat × Bool)}

/-- A source of cells: the elements that append or copy takes. -/
def Src (P : Program) (st : ASt) (V : View) (y : Operand) (sz mm : Nat) (ycs : List AVal) : Prop :=
  ∀ (m : Imm) (a : Act) (w : World), Sat m V w → TmpsOK m st a.tmps → (Builtin.lenOf (a.eval y)).run P w = .ok mm w ∧
    ∃ us : List Value, TrL m ycs us ∧ us.length = mm * sz ∧ ∀ w₀ : World, w₀.heap = w.heap → (Builtin.firstCells sz mm (a.eval y)).run P w₀ = .ok ⟨us⟩ w₀

theorem run_loadCells_imm {w : World} {b off n : Nat} {c : Array Value} {T : TypeId} {fr : Nat × Nat} {cs r : List Value} (h : w.heap[b]? = some (.cells c T fr)) (hc : c.toList = cs ++ r) (hle : off + n ≤ cs.length) :
    (loadCells ⟨b, off, none⟩ n).run P w = .ok ⟨(cs.drop off).take n⟩ w := by
  have hsz : c.size = cs.length + r.length := by rw [← List.length_append, ← hc]; simp
  unfold loadCells
  rw [run_loadCells_row h off n 0 #[] (by omega), hc]
  simp only [Nat.add_zero]
  rw [List.drop_append_of_le_length (by omega), List.take_append_of_le_length (by simp; omega)]
  simp

theorem src_tree {y : Operand} {sz : Nat} {xs : List AVal} (hy : Ev st y (.tree sz xs)) (hx : xs.all (fun x => x.good && Nat.beq x.cells.length sz) = true) :
    Src P st V y sz xs.length (xs.flatMap AVal.cells) := by
  intro m a w s q
  have hv := hy m a q
  simp only [Tr] at hv
  obtain ⟨ad, cap, he, hc, hr⟩ := hv
  refine ⟨by simp [he, Builtin.lenOf], ?_⟩
  rcases hr with hr | ⟨b, off, cs, rfl, hm, hE⟩
  · have hnil : xs = [] := List.length_eq_zero_iff.1 hr
    subst hnil
    refine ⟨[], by simp [TrL], by simp, fun w₀ _ => ?_⟩
    rw [he]
    cases ad with
    | none => simp [Builtin.firstCells]
    | some p => simp [Builtin.firstCells, loadCells, loadCellsFrom]
  · obtain ⟨hle, ht⟩ := hE.cells hx
    simp only [List.length_drop] at hle
    obtain ⟨_, c, T, fr, r, hh, hcc⟩ := s.imm b cs hm
    refine ⟨_, ht, by simp; omega, fun w₀ hw => ?_⟩
    rw [he]
    simp only [Builtin.firstCells]
    by_cases h0 : xs.length * sz = 0
    · rw [h0]; simp [loadCells, loadCellsFrom]
    · exact run_loadCells_imm (by rw [hw]; exact hh) hcc (by omega)

theorem src_row {y : Operand} {sz b off n cap : Nat} {cs : List AVal} {N : Option Nat} (hy : Ev st y (.v (.slice (some ⟨b, off, none⟩) n cap))) (hb : V b = some (.rown cs N)) (hle : off + n * sz ≤ cs.length) :
    Src P st V y sz n ((cs.drop off).take (n * sz)) := by
  intro m a w s q
  have he : a.eval y = .slice (some ⟨b, off, none⟩) n cap := by simpa [Tr] using hy m a q
  obtain ⟨o', ho, c, T, rfl, ⟨us, r, hc, ht⟩, _⟩ := s.obj b _ hb
  have hl := ht.length
  refine ⟨by simp [he, Builtin.lenOf], _, (ht.drop off).take (n * sz), by simp; omega, fun w₀ hw => ?_⟩
  rw [he]
  exact run_loadCells_imm (by rw [hw]; exact ho) hc (by omega)

theorem src_nil {y : Operand} {sz cap : Nat} {ad : Option Addr} (hy : Ev st y (.v (.slice ad 0 cap))) : Src P st V y sz 0 [] := by
  intro m a w s q
  have he : a.eval y = .slice ad 0 cap := by simpa [Tr] using hy m a q
  refine ⟨by simp [he, Builtin.lenOf], [], rfl, by simp, fun w₀ _ => ?_⟩
  rw [he]
  cases ad with
  | none => simp [Builtin.firstCells]
  | some p => simp [Builtin.firstCells, loadCells, loadCellsFrom]

theorem nextslicecap_le (newLen oldCap : Nat) (h : oldCap < newLen) : Builtin.nextslicecap newLen oldCap ≤ 2 * newLen + 192 := by
  have key : ∀ r c, c ≤ newLen + (newLen + 768) / 4 → Builtin.growBy newLen r c ≤ newLen + (newLen + 768) / 4 := by
    intro r
    induction r with
    | zero => intro c hc; exact hc
    | succ r ih =>
      intro c hc
      simp only [Builtin.growBy]
      split
      · exact hc
      · exact ih _ (by omega)
  unfold Builtin.nextslicecap
  split
  · omega
  · split
    · omega
    · have := key 4 oldCap (by omega)
      omega

def srcTy (P : Program) (t : TypeId) : Bool :=
  match P.underlying t with
  | some (.slice _) | some .string => true
  | _ => false

theorem srcTy_desc {t : TypeId} (h : srcTy P t = true) : (∃ e, P.underlying t = some (.slice e)) ∨ P.underlying t = some .string := by
  unfold srcTy at h
  split at h
  · rename_i e he; exact .inl ⟨e, he⟩
  · rename_i he; exact .inr he
  · cases h
theorem bytesOf_info {e : TypeId} {n : Nat} (h : bytesOf P e = some n) : ∃ i, P.info? e = some i ∧ i.bytes = n := by
  unfold bytesOf at h
  cases hi : P.info? e with
  | none => simp [hi] at h
  | some i => simp [hi] at h; exact ⟨i, rfl, h⟩

/-- Append where there is room. -/
theorem run_append_in {w w' : World} {t xt e : TypeId} {g : Bool} {sz n cap mm : Nat} {x : Value} {base : Option Addr} {us : List Value}
    (ht : sliOf P t = some (e, g, sz)) (hxt : srcTy P xt = true) (hl : (Builtin.lenOf x).run P w = .ok mm w) (hf : (Builtin.firstCells sz mm x).run P w = .ok ⟨us⟩ w) (hle : n + mm ≤ cap)
    (hst : ∀ ad, base = some ad → (storeCells (ad.add (n * sz)) us).run P w = .ok () w') (hst0 : base = none → w' = w) :
    (Builtin.append_ #[t, xt] ty #[.slice base n cap, x]).run P w = .ok (.slice base (n + mm) cap) w' := by
  obtain ⟨hu, hs⟩ := sliOf_info ht
  have hdx := srcTy_desc hxt
  have hsz := (run_isAgg_shp hs w).2
  cases base with
  | none =>
    have := hst0 rfl; subst this
    rcases hdx with ⟨e', hdx⟩ | hdx <;> simp [Builtin.append_, run_underlying hu, run_underlying hdx, hsz, hl, hle, hf]
  | some ad =>
    have hst' := hst ad rfl
    rcases hdx with ⟨e', hdx⟩ | hdx <;> simp [Builtin.append_, run_underlying hu, run_underlying hdx, hsz, hl, hle, hf, hst']

/-- Append where there is none. -/
theorem run_append_out {w : World} {t xt e : TypeId} {g : Bool} {sz n cap mm by_ : Nat} {x : Value} {base : Option Addr} {us olds : List Value} {zv : Value}
    (ht : sliOf P t = some (e, g, sz)) (hxt : srcTy P xt = true) (hz : zeroOf P e = some zv) (hzs : zv.cells.size = sz) (hby : bytesOf P e = some by_)
    (hl : (Builtin.lenOf x).run P w = .ok mm w) (hf : ∀ w₀ : World, w₀.heap = w.heap → (Builtin.firstCells sz mm x).run P w₀ = .ok ⟨us⟩ w₀) (hul : us.length = mm * sz) (hg : cap < n + mm)
    (hold : ∀ w₀ : World, w₀.heap = w.heap → (Builtin.firstCells sz n (.slice base n cap)).run P w₀ = .ok ⟨olds⟩ w₀) (hol : olds.length = n * sz)
    (hroom : (2 * (n + mm) + 192) * by_ ≤ 281474976710656) (hlen : n + mm ≤ 4611686018427387904) :
    ∃ (cap' : Nat) (w₀ : World) (cells : List Value), n + mm ≤ cap' ∧ (w₀.heap = w.heap ∧ Quiet w w₀) ∧ cells.length = (cap' - (n + mm)) * sz ∧
      (Builtin.append_ #[t, xt] ty #[.slice base n cap, x]).run P w = .ok (.slice (some ⟨w.heap.size, 0, none⟩) (n + mm) cap') (w₀.alloc (.cells ⟨olds ++ (us ++ cells)⟩ e)) := by
  obtain ⟨hu, hs⟩ := sliOf_info ht
  have hdx := srcTy_desc hxt
  obtain ⟨i, hi, rfl⟩ := bytesOf_info hby
  have hsz := fun w => (run_isAgg_shp (P := P) hs w).2
  have hn : ¬ (n + mm ≤ cap) := by omega
  have hti : ∀ w : World, (typeInfo e).run P w = .ok i w := fun w => by simp [typeInfo, Sem.run_bind, program, Sem.run, hi, Result.andThen]
  have h63 : ¬ ((9223372036854775807 : Int) < ((n : Int) + (mm : Int)) ∧ i.bytes = 0) := by omega
  have harr : ∀ Z : Array Value, ((⟨olds⟩ : Array Value) ++ ((⟨us⟩ : Array Value) ++ Z)) = ⟨olds ++ (us ++ Z.toList)⟩ := fun Z => by apply Array.ext'; simp
  have h48 : ¬ (281474976710656 < Builtin.nextslicecap (n + mm) cap * i.bytes) := by
    have h1 := nextslicecap_le (n + mm) cap hg
    have h2 : Builtin.nextslicecap (n + mm) cap * i.bytes ≤ (2 * (n + mm) + 192) * i.bytes := Nat.mul_le_mul_right _ h1
    omega
  have hq : (Question.appendCap (n + mm) cap e).forced = false := rfl
  have hcap : n + mm ≤ (Question.appendCap (n + mm) cap e).cut (w.tape w.drawn (.appendCap (n + mm) cap e)) := by simp only [Question.cut]; omega
  generalize hC : (Question.appendCap (n + mm) cap e).cut (w.tape w.drawn (.appendCap (n + mm) cap e)) = C at hcap
  refine ⟨C, w.drew, (Builtin.zeroCells zv.cells (C - (n + mm))).toList, hcap, ⟨rfl, ⟨⟨rfl, rfl⟩, fun _ => rfl⟩⟩, by simp [Builtin.zeroCells, hzs], ?_⟩
  have hask : ∀ (k : Nat) (w : World), (askRoom k).run P w = .ok () w := by intro k w; unfold askRoom; split <;> simp [mark, Sem.run]
  have hzr : ∀ w : World, (zeroValue e).run P w = .ok zv w := fun w => run_zeroOf hz w
  have ho := hold w.drew rfl
  have hff := hf w.drew rfl
  rcases hdx with ⟨e', hdx⟩ | hdx <;>
    simp [Builtin.append_, run_underlying hu, run_underlying hdx, hsz, hl, hn, hti, h63, h48, choose, Sem.run, hq, hC, hask, ho, hff, hzr, newRow, run_newObj_alloc, Result.andThen, harr] <;> rfl

theorem firstCells_zero {sz : Nat} {ad : Option Addr} {cap : Nat} (w : World) : (Builtin.firstCells sz 0 (.slice ad 0 cap)).run P w = .ok ⟨[]⟩ w := by
  cases ad with
  | none => simp [Builtin.firstCells]
  | some p => simp [Builtin.firstCells, loadCells, loadCellsFrom]

/-- Append to nothing: a slice that never changes. -/
theorem s_append0 {t xt e : TypeId} {g : Bool} {sz by_ : Nat} {y z : Operand} {ad : Option Addr} {els : List AVal} {zv : Value}
    (ht : sliOf P t = some (e, g, sz)) (hxt : srcTy P xt = true) (hz : zeroOf P e = some zv) (hzs : zv.cells.size = sz) (hby : bytesOf P e = some by_)
    (hy : Ev st y (.v (.slice ad 0 0))) (hS : Src P st V z sz els.length (els.flatMap AVal.cells)) (hel : els.all (fun x => x.good && Nat.beq x.cells.length sz) = true)
    (hroom : (2 * els.length + 192) * by_ ≤ 281474976710656) (hlen : els.length ≤ 4611686018427387904) :
    OpS ρ P ⟨d, .call ⟨.builtin .append, #[y, z], #[t, xt]⟩, ty, pos, aft, gd⟩ st V (One (.tree sz els) V) :=
  opS_of_run (by intro c h; cases h) fun m a w s q => by
    have he : a.eval y = .slice ad 0 0 := by simpa [Tr] using hy m a q
    obtain ⟨hl, us, htl, hul, hf⟩ := hS m a w s q
    by_cases h0 : els.length = 0
    · have hnil : us = [] := List.length_eq_zero_iff.1 (by rw [hul, h0]; simp)
      subst hnil
      have hr := run_append_in (ty := ty) (base := ad) (n := 0) (cap := 0) (w' := w) ht hxt hl (hf w rfl) (by omega) (fun p _ => by simp [storeCells]) (fun _ => rfl)
      refine ⟨.value (.slice ad (0 + els.length) 0), w, m, V, _, _, ?_, .inl rfl, ⟨rfl, rfl⟩, ?_, s, Fr.refl _ _ _⟩
      · simp [execOp, resolve, invoke, builtin, he, Sem.run_bind, hr, Result.andThen]
      · simp only [Tr]; exact ⟨ad, 0, by simp, by omega, .inl h0⟩
    · obtain ⟨cap', w₀, cells, hc, ⟨hh, hqq⟩, hcl, hr⟩ := run_append_out (ty := ty) (base := ad) (n := 0) (cap := 0) ht hxt hz hzs hby hl hf hul (by omega) (fun w₀ _ => firstCells_zero w₀) (by simp) (by simpa using hroom) (by omega)
      obtain ⟨s', f, hm⟩ := (s.heap hh).allocImm ⟨[] ++ (us ++ cells)⟩ e
      have hsz : w₀.heap.size = w.heap.size := by rw [hh]
      refine ⟨.value (.slice (some ⟨w.heap.size, 0, none⟩) (0 + els.length) cap'), _, _, V, _, _, ?_, .inl rfl, ⟨rfl, rfl⟩, ?_, s', (Fr.heap m V hh hqq).trans f⟩
      · simp [execOp, resolve, invoke, builtin, he, Sem.run_bind, hr, Result.andThen]
      · simp only [Tr]
        refine ⟨some ⟨w.heap.size, 0, none⟩, cap', by simp, by omega, .inr ⟨w₀.heap.size, 0, _, by rw [hsz], hm, ?_⟩⟩
        have := TrE.of_cells (TrL.mono f.imm _ _ htl) hel cells
        simpa using this

/-- What is gathered in a slice of one's own: nothing yet, or a row. -/
def Acc (V : View) (x : AVal) (sz n : Nat) (cs : List AVal) (V₀ : View) : Prop :=
  (x = .v (.slice none 0 0) ∧ n = 0 ∧ cs = [] ∧ V = V₀) ∨
  ∃ b cap, n ≤ cap ∧ V₀ b = none ∧ x = .v (.slice (some ⟨b, 0, none⟩) n cap) ∧ cs.length = n * sz ∧ V b = some (.rown cs (some (cap * sz))) ∧ V.drop b = V₀

theorem View.drop_set (V : View) (b : Nat) (o : AObj) : (V.set b o).drop b = V.drop b := by
  funext k; by_cases h : k = b <;> simp [View.set, View.drop, h]
theorem View.drop_none (V : View) {b : Nat} (h : V b = none) : V.drop b = V := by
  funext k; by_cases hk : k = b
  · subst hk; simp [h]
  · simp [View.drop, hk]

/-- Append to what is gathered. -/
theorem s_acc {t xt e : TypeId} {g : Bool} {sz by_ n mm : Nat} {y z : Operand} {x : AVal} {cs ycs : List AVal} {zv : Value} {V₀ : View}
    (ht : sliOf P t = some (e, g, sz)) (hxt : srcTy P xt = true) (hz : zeroOf P e = some zv) (hzs : zv.cells.size = sz) (hby : bytesOf P e = some by_)
    (hy : Ev st y x) (hA : Acc V x sz n cs V₀) (hS : Src P st V z sz mm ycs) (hone : ycs.all AVal.one = true)
    (hroom : (2 * (n + mm) + 192) * by_ ≤ 281474976710656) (hlen : n + mm ≤ 4611686018427387904) :
    OpS ρ P ⟨d, .call ⟨.builtin .append, #[y, z], #[t, xt]⟩, ty, pos, aft, gd⟩ st V (fun x' V' => Acc V' x' sz (n + mm) (cs ++ ycs) V₀) :=
  opS_of_run (by intro c h; cases h) fun m a w s q => by
    obtain ⟨hl, us, htl, hul, hf⟩ := hS m a w s q
    have hyl := htl.length
    have hones := htl.oneCells hone
    -- what a new block comes to
    have grow : ∀ (base : Option Addr) (cap : Nat) (olds : List Value), a.eval y = .slice base n cap → cap < n + mm → (∀ w₀ : World, w₀.heap = w.heap → (Builtin.firstCells sz n (.slice base n cap)).run P w₀ = .ok ⟨olds⟩ w₀) → olds.length = n * sz →
        TrL m cs olds → ∀ V₁ : View, V₁.le V → (∀ k, V₁ k = V₀ k) →
        ∃ nx w' m' V' x v, (execOp a.eval ⟨d, .call ⟨.builtin .append, #[y, z], #[t, xt]⟩, ty, pos, aft, gd⟩).run P w = .ok nx w' ∧ (nx = .value v ∨ (nx = .skip ∧ v = undef)) ∧
          Acc V' x sz (n + mm) (cs ++ ycs) V₀ ∧ Tr m' x v ∧ Sat m' V' w' ∧ Fr m V w m' V' w' := by
      intro base cap olds he hg hold hol hto V₁ hle hV₁
      obtain ⟨cap', w₀, cells, hc, ⟨hh, hqq⟩, hcl, hr⟩ := run_append_out (ty := ty) (base := base) ht hxt hz hzs hby hl hf hul hg hold hol hroom hlen
      have hfun : V₁ = V₀ := funext hV₁
      have s1 : Sat m V₁ w₀ := (s.sub hle).heap hh
      have hok : AObj.OK m (.rown (cs ++ ycs) (some (cap' * sz))) (.cells ⟨olds ++ (us ++ cells)⟩ e (0, 0)) :=
        ⟨_, e, rfl, ⟨olds ++ us, cells, by simp, hto.append htl⟩, fun k hk => by
          cases hk
          have : (n + mm) * sz + (cap' - (n + mm)) * sz = cap' * sz := by rw [← Nat.add_mul]; congr 1; omega
          simp [hol, hul, hcl]; rw [Nat.add_mul] at this; omega⟩
      obtain ⟨s', f⟩ := s1.alloc hok
      have hsz : w₀.heap.size = w.heap.size := by rw [hh]
      have hfr : V₁ w₀.heap.size = none := s1.fresh
      refine ⟨.value (.slice (some ⟨w.heap.size, 0, none⟩) (n + mm) cap'), _, m, _, .v (.slice (some ⟨w.heap.size, 0, none⟩) (n + mm) cap'), _, ?_, .inl rfl, .inr ⟨w₀.heap.size, cap', hc, ?_, by rw [hsz], ?_, by simp, ?_⟩, by simp [Tr], s', ((Fr.sub hle).trans (Fr.heap m V₁ hh hqq)).trans f⟩
      · simp [execOp, resolve, invoke, builtin, he, Sem.run_bind, hr, Result.andThen]
      · rw [← hfun]; exact hfr
      · have := hto.length; simp [Nat.add_mul]; omega
      · rw [View.drop_set, View.drop_none _ hfr]; exact hfun
    rcases hA with ⟨rfl, rfl, rfl, rfl⟩ | ⟨b, cap, hnc, hV0, rfl, hcl, hVb, hVd⟩
    · have he : a.eval y = .slice none 0 0 := by simpa [Tr] using hy m a q
      by_cases h0 : mm = 0
      · subst h0
        have hnil : us = [] := List.length_eq_zero_iff.1 (by rw [hul]; simp)
        have hyn : ycs = [] := List.length_eq_zero_iff.1 (by rw [← hyl, hnil]; rfl)
        subst hnil hyn
        have hr := run_append_in (ty := ty) (base := none) (n := 0) (cap := 0) (w' := w) ht hxt hl (hf w rfl) (by omega) (fun p h => by cases h) (fun _ => rfl)
        refine ⟨.value (.slice none 0 0), w, m, V, _, _, ?_, .inl rfl, .inl ⟨rfl, rfl, rfl, rfl⟩, by simp [Tr], s, Fr.refl _ _ _⟩
        simp [execOp, resolve, invoke, builtin, he, Sem.run_bind, hr, Result.andThen]
      · exact grow none 0 [] he (by omega) (fun w₀ _ => firstCells_zero w₀) (by simp) rfl V (View.le_refl _) (fun _ => rfl)
    · have he : a.eval y = .slice (some ⟨b, 0, none⟩) n cap := by simpa [Tr] using hy m a q
      obtain ⟨o', ho, c, T, rfl, ⟨os, r, hc, hto⟩, hN⟩ := s.obj b _ hVb
      have hosl := hto.length
      have hcs : c.size = cap * sz := hN _ rfl
      by_cases hfit : n + mm ≤ cap
      · have hbound : (n + mm) * sz ≤ cap * sz := Nat.mul_le_mul_right _ hfit
        rw [Nat.add_mul] at hbound
        obtain ⟨w', c', hst, hsz, hn', hk, hq, hc'⟩ := run_storeCells_row P (n * sz) us 0 w c ho (by omega) hones
        have hr := run_append_in (ty := ty) (base := some ⟨b, 0, none⟩) (n := n) (cap := cap) (w' := w') ht hxt hl (hf w rfl) hfit (fun p h => by cases h; rw [addr_add]; simpa using hst) (fun h => by cases h)
        have hlen' : c'.size = c.size := by
          have := congrArg List.length hc'
          simp only [List.length_append, List.length_take, List.length_drop] at this
          simp only [Array.length_toList] at this
          omega
        have hok : AObj.OK m (.rown (cs ++ ycs) (some (cap * sz))) (.cells c' T (0, 0)) := by
          refine ⟨c', T, rfl, ⟨os ++ us, r.drop us.length, ?_, hto.append htl⟩, fun k hk => by cases hk; omega⟩
          rw [hc', hc]
          simp only [Nat.add_zero]
          have e1 : n * sz = os.length := by omega
          rw [e1, List.take_left, List.drop_length_add_append]
          simp
        obtain ⟨s', f⟩ := s.put hVb hok hsz hn' hk hq
        refine ⟨.value (.slice (some ⟨b, 0, none⟩) (n + mm) cap), w', m, _, _, _, ?_, .inl rfl, .inr ⟨b, cap, hfit, hV0, rfl, ?_, by simp, ?_⟩, by simp [Tr], s', f⟩
        · simp [execOp, resolve, invoke, builtin, he, Sem.run_bind, hr, Result.andThen]
        · simp [Nat.add_mul]; omega
        · rw [View.drop_set]; exact hVd
      · refine grow (some ⟨b, 0, none⟩) cap os he (by omega) (fun w₀ hh => ?_) (by omega) hto (V.drop b) (View.drop_le V b) (fun k => congrFun hVd k)
        simp only [Builtin.firstCells]
        have := run_loadCells_imm (P := P) (b := b) (off := 0) (n := n * sz) (by rw [hh]; exact ho) hc (by omega)
        rw [this]
        congr 2
        simp [List.take_of_length_le, hosl, hcl]

end
end Go.AV
