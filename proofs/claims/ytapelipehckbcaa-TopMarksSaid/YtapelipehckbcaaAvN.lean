/- The abstract view: a region whose order is open, by what holds of any set of operations that are done. -/
import Derived.Test.YtapelipehckbcaaAvM
set_option linter.unusedSimpArgs false
namespace Go.AV

def OpP (ρ : Option Nat) (P : Program) (ops : Array Oper) (o : Oper) (st : ASt) (V : View) (Post : AVal → View → Prop) : Prop :=
  ∀ (m : Imm) (a : Act) (w : World), Sat m V w → TmpsOK m st a.tmps → ∀ (next : Act → World → Prop) (Q : Exit → Act → World → Prop),
    (∀ v m' w' x V', Post x V' → Tr m' x v → Sat m' V' w' → Fr m V w m' V' w' → next (a.put o.dst v) w') →
    if Region.wanted o (yielded ops a.tmps) then o.wpIn (FR ρ) 0 P a w next Q else (∀ f, o.about P w a.eval = some f → (FR ρ).fn f) ∧ next (a.put o.dst undef) w

section
variable {ρ : Option Nat} {P : Program} {Q : AQ} {st : ASt} {V : View} {o : Oper} {ops : Array Oper}
theorem p_f {x : AVal} {Post : AVal → View → Prop} (h : OpF ρ P ops o st V x) (hp : Post x V) : OpP ρ P ops o st V Post := fun m a w s t next Q hn =>
  h m a w s t next Q fun v m' w' hx s' f => hn v m' w' x V hp hx s' f
theorem p_s {R Post : AVal → View → Prop} (hg : o.guard = none) (h : OpS ρ P o st V R) (hp : ∀ x V', R x V' → Post x V') : OpP ρ P ops o st V Post := fun m a w s t next Q hn => by
  have hw : Region.wanted o (yielded ops a.tmps) = true := by simp [Region.wanted, hg]
  rw [if_pos hw]
  exact h m a w s t next Q fun v m' w' x V' hr => hn v m' w' x V' (hp x V' hr)
end

def depL (ops : Array Oper) (xs : Nat → AVal) (j : Nat) (o : Oper) : List Nat → List (Nat × AVal)
  | [] => []
  | i :: r =>
    match (ops[i]?).bind (·.dst) with
    | some t => if Nat.blt i j && (o.looksAt ops).contains t then (t, xs i) :: depL ops xs j o r else depL ops xs j o r
    | none => depL ops xs j o r
def finL (ops : Array Oper) (xs : Nat → AVal) : List Nat → List (Nat × AVal)
  | [] => []
  | i :: r =>
    match (ops[i]?).bind (·.dst) with
    | some t => (t, xs i) :: finL ops xs r
    | none => finL ops xs r
def depSt (ops : Array Oper) (base : List (Nat × AVal)) (n : Nat) (xs : Nat → AVal) (j : Nat) (o : Oper) : ASt :=
  ⟨depL ops xs j o (List.range ops.size) ++ base.filter fun p => (o.looksAt ops).contains p.1, n⟩
def lset (L : Nat → Bool) (j : Nat) : Nat → Bool := fun i => if i = j then true else L i

theorem depL_some {ops : Array Oper} {xs : Nat → AVal} {j : Nat} {o : Oper} {t : Nat} {z : AVal} : ∀ {l : List Nat}, (depL ops xs j o l).lookup t = some z →
    ∃ i oi, i ∈ l ∧ ops[i]? = some oi ∧ oi.dst = some t ∧ i < j ∧ t ∈ o.looksAt ops ∧ z = xs i
  | [], h => by simp [depL] at h
  | i :: r, h => by
    simp only [depL] at h
    split at h
    · rename_i t' ht
      split at h
      · rename_i hc
        simp only [Bool.and_eq_true, Nat.blt_eq] at hc
        simp only [List.lookup_cons] at h
        split at h
        · rename_i he
          simp only [beq_iff_eq] at he; subst he
          simp only [Option.bind_eq_some_iff] at ht
          obtain ⟨oi, hoi, hd⟩ := ht
          exact ⟨i, oi, List.mem_cons_self, hoi, hd, hc.1, by simpa using hc.2, (Option.some.inj h).symm⟩
        · obtain ⟨i', oi, h1, h2⟩ := depL_some h; exact ⟨i', oi, List.mem_cons_of_mem _ h1, h2⟩
      · obtain ⟨i', oi, h1, h2⟩ := depL_some h; exact ⟨i', oi, List.mem_cons_of_mem _ h1, h2⟩
    · obtain ⟨i', oi, h1, h2⟩ := depL_some h; exact ⟨i', oi, List.mem_cons_of_mem _ h1, h2⟩
theorem depL_none {ops : Array Oper} {xs : Nat → AVal} {j : Nat} {o : Oper} {t : Nat} : ∀ {l : List Nat}, (depL ops xs j o l).lookup t = none → t ∈ o.looksAt ops →
    ∀ i oi, i ∈ l → ops[i]? = some oi → oi.dst = some t → ¬ i < j
  | [], _, _, i, oi, hi, _, _ => by cases hi
  | k :: r, h, ht, i, oi, hi, ho, hd => by
    simp only [depL] at h
    rcases List.mem_cons.1 hi with rfl | hi
    · simp only [ho, Option.bind_some, hd] at h
      intro hlt
      have hc : (Nat.blt i j && (o.looksAt ops).contains t) = true := by simp [Nat.blt_eq, hlt, ht]
      rw [if_pos hc] at h
      simp at h
    · split at h
      · split at h
        · simp only [List.lookup_cons] at h
          split at h
          · cases h
          · exact depL_none h ht i oi hi ho hd
        · exact depL_none h ht i oi hi ho hd
      · exact depL_none h ht i oi hi ho hd
theorem finL_some {ops : Array Oper} {xs : Nat → AVal} {t : Nat} {z : AVal} : ∀ {l : List Nat}, (finL ops xs l).lookup t = some z → ∃ i oi, i ∈ l ∧ ops[i]? = some oi ∧ oi.dst = some t ∧ z = xs i
  | [], h => by simp [finL] at h
  | i :: r, h => by
    simp only [finL] at h
    split at h
    · rename_i t' ht
      simp only [List.lookup_cons] at h
      split at h
      · rename_i he
        simp only [beq_iff_eq] at he; subst he
        simp only [Option.bind_eq_some_iff] at ht
        obtain ⟨oi, hoi, hd⟩ := ht
        exact ⟨i, oi, List.mem_cons_self, hoi, hd, (Option.some.inj h).symm⟩
      · obtain ⟨i', oi, h1, h2⟩ := finL_some h; exact ⟨i', oi, List.mem_cons_of_mem _ h1, h2⟩
    · obtain ⟨i', oi, h1, h2⟩ := finL_some h; exact ⟨i', oi, List.mem_cons_of_mem _ h1, h2⟩
theorem finL_none {ops : Array Oper} {xs : Nat → AVal} {t : Nat} : ∀ {l : List Nat}, (finL ops xs l).lookup t = none → ∀ i oi, i ∈ l → ops[i]? = some oi → oi.dst ≠ some t
  | [], _, i, oi, hi, _ => by cases hi
  | k :: r, h, i, oi, hi, ho => by
    simp only [finL] at h
    rcases List.mem_cons.1 hi with rfl | hi
    · intro hd
      simp only [ho, Option.bind_some, hd] at h
      simp at h
    · split at h
      · simp only [List.lookup_cons] at h
        split at h
        · cases h
        · exact finL_none h i oi hi ho
      · exact finL_none h i oi hi ho

section
variable {ρ : Option Nat} {P : Program} {Q : AQ} {ops : Array Oper} {β : Type}

structure AnyInv (ops : Array Oper) (n : Nat) (base : List (Nat × AVal)) (x : Nat → AVal) (listed : Array Bool) (m : Imm) (a : Array Value) : Prop where
  size : listed.size = ops.size
  closed : ∀ i j, listed.getD j false = true → waits ops i j = true → listed.getD i false = true
  asz : a.size = n
  vals : ∀ i o t, ops[i]? = some o → listed.getD i false = true → o.dst = some t → Reads m a t (x i)
  base : ∀ t z, base.lookup t = some z → (∀ i o, ops[i]? = some o → listed.getD i false = true → o.dst ≠ some t) → Reads m a t z

def left (listed : Array Bool) (n : Nat) : Nat := ((List.range n).filter fun i => !listed.getD i false).length
theorem left_set {listed : Array Bool} {n j : Nat} (hs : listed.size = n) (hj : j < n) (h : listed.getD j false = false) : left (listed.setIfInBounds j true) n < left listed n := by
  unfold left
  have hp : ∀ i, (!(listed.setIfInBounds j true).getD i false) = (!listed.getD i false && !(i == j)) := by
    intro i
    by_cases hij : i = j
    · subst hij; simp [hs, hj]
    · rw [getD_set_ne false (Ne.symm hij)]; simp [hij]
  have : ((List.range n).filter fun i => !(listed.setIfInBounds j true).getD i false) = ((List.range n).filter fun i => !listed.getD i false).filter fun i => !(i == j) := by
    rw [List.filter_filter]
    congr 1
    funext i
    rw [hp i, Bool.and_comm]
  rw [this]
  rcases Nat.lt_or_ge (((List.range n).filter fun i => !listed.getD i false).filter fun i => !(i == j)).length ((List.range n).filter fun i => !listed.getD i false).length with h' | h'
  · exact h'
  · have hle := List.length_filter_le (fun i => !(i == j)) ((List.range n).filter fun i => !listed.getD i false)
    have heq := List.filter_eq_self.2 (List.length_filter_eq_length_iff.1 (Nat.le_antisymm hle h'))
    have hm : j ∈ (List.range n).filter fun i => !listed.getD i false := List.mem_filter.2 ⟨List.mem_range.2 hj, by simp [h]⟩
    rw [← heq] at hm
    have := (List.mem_filter.1 hm).2
    simp at this

theorem any_main {n : Nat} (ok : DrawOK ops (List.replicate ops.size false) n) {base : List (Nat × AVal)} {xs : β → Nat → AVal} {K : β → (Nat → Bool) → View → Prop} {B : Nat} {m₀ : Imm} {V₀ : View} {w₀ : World}
    (hops : ∀ j o, ops[j]? = some o → ∀ b L V, K b L V → L j = false → (∀ i, waits ops i j = true → L i = true) →
      OpP ρ P ops o (depSt ops base n (xs b) j o) V fun x V' => ∃ b', (o.dst ≠ none → x = xs b' j) ∧ (∀ i, L i = true → xs b' i = xs b i) ∧ K b' (lset L j) V')
    (hQ : ∀ b L V, (∀ i, i < ops.size → L i = true) → K b L V → Q .normal ⟨finL ops (xs b) (List.range ops.size) ++ base, n⟩ V) :
    ∀ (fuel : Nat) (listed : Array Bool) (b : β) (V : View) (m : Imm) (a : Act) (w : World),
      AnyInv ops n base (xs b) listed m a.tmps → left listed ops.size ≤ fuel → K b (fun i => listed.getD i false) V → Sat m V w → DefOK B V a.defers w → Fr m₀ V₀ w₀ m V w →
      wpAnyIn (FR ρ) 0 P .any ops (conc B m₀ V₀ w₀ Q) fuel listed a w := by
  have fin : ∀ (listed : Array Bool) (b : β) (V : View) (m : Imm) (a : Act) (w : World), AnyInv ops n base (xs b) listed m a.tmps → (∀ i, i < ops.size → listed.getD i false = true) → K b (fun i => listed.getD i false) V →
      Sat m V w → DefOK B V a.defers w → Fr m₀ V₀ w₀ m V w → conc B m₀ V₀ w₀ Q .normal a w := by
    intro listed b V m a w I hall hK s df f
    refine ⟨m, _, V, hQ b _ V hall hK, s, ⟨I.asz, fun t z hz => ?_⟩, df, f⟩
    simp only [List.lookup_append] at hz
    cases hl : (finL ops (xs b) (List.range ops.size)).lookup t with
    | some z' =>
      rw [hl] at hz
      obtain rfl : z' = z := by simpa using hz
      obtain ⟨i, oi, hi, ho, hd, rfl⟩ := finL_some hl
      exact I.vals i oi t ho (hall i (List.mem_range.1 hi)) hd
    | none =>
      rw [hl] at hz
      exact I.base t z (by simpa using hz) fun i oi ho _ => finL_none hl i oi (List.mem_range.2 (Array.getElem?_eq_some_iff.1 ho).1) ho
  have done : ∀ (listed : Array Bool) (x : Nat → AVal) (m : Imm) (a : Array Value), AnyInv ops n base x listed m a → Region.ready .any ops listed = [] → ∀ i, i < ops.size → listed.getD i false = true := by
    intro listed x m a I hnil j
    induction j using Nat.strongRecOn with
    | _ j ihj =>
      intro hj
      cases hl : listed.getD j false with
      | true => rfl
      | false =>
        exfalso
        have : j ∈ Region.ready .any ops listed := mem_ready.2 ⟨by rw [getD_agree (by rw [I.size]; exact hj)]; exact hl, ops[j], Array.getElem?_eq_getElem hj, fun e he hb => by
          have := ok.deps j _ (Array.getElem?_eq_getElem hj) e he hb
          exact ihj e.on this (by omega)⟩
        rw [hnil] at this; cases this
  intro fuel
  induction fuel with
  | zero =>
    intro listed b V m a w I hf hK s df f
    have hall : ∀ i, i < ops.size → listed.getD i false = true := by
      intro i hi
      cases hl : listed.getD i false with
      | true => rfl
      | false =>
        have : i ∈ (List.range ops.size).filter fun i => !listed.getD i false := List.mem_filter.2 ⟨List.mem_range.2 hi, by simp [hl]⟩
        have hlen := List.length_pos_of_mem this
        unfold left at hf; omega
    refine ⟨?_, fin listed b V m a w I hall hK s df f⟩
    apply List.eq_nil_iff_forall_not_mem.2
    intro i hi
    obtain ⟨h0, o, ho, _⟩ := mem_ready.1 hi
    have hlt := (Array.getElem?_eq_some_iff.1 ho).1
    rw [getD_agree (by rw [I.size]; exact hlt), hall i hlt] at h0
    cases h0
  | succ fuel ih =>
    intro listed b V m a w I hf hK s df f
    refine ⟨fun hnil => fin listed b V m a w I (done listed _ m a.tmps I hnil) hK s df f, fun j hj => ?_⟩
    obtain ⟨h0, o, ho, hpre⟩ := mem_ready.1 hj
    have hlt := (Array.getElem?_eq_some_iff.1 ho).1
    rw [getD_agree (by rw [I.size]; exact hlt)] at h0
    have hwl : ∀ i, waits ops i j = true → listed.getD i false = true := fun i hi => waits_listed hi hj
    have hT : TmpsOK m (depSt ops base n (xs b) j o) a.tmps := by
      refine ⟨I.asz, fun t z hz => ?_⟩
      simp only [depSt, List.lookup_append] at hz
      cases hl : (depL ops (xs b) j o (List.range ops.size)).lookup t with
      | some z' =>
        rw [hl] at hz
        obtain rfl : z' = z := by simpa using hz
        obtain ⟨i, oi, hi, hoi, hd, hij, ht, rfl⟩ := depL_some hl
        exact I.vals i oi t hoi (hwl i (ok.before i j oi o t hoi ho hd ht hij)) hd
      | none =>
        rw [hl] at hz
        simp only [Option.none_or, lookup_filter (fun k => (o.looksAt ops).contains k)] at hz
        split at hz
        · rename_i hc
          have ht : t ∈ o.looksAt ops := by simpa using hc
          refine I.base t z hz fun i oi hoi hli hd => ?_
          have hnlt := depL_none hl ht i oi (List.mem_range.2 (Array.getElem?_eq_some_iff.1 hoi).1) hoi hd
          have := ok.behind i j oi o t hoi ho hd ht hnlt
          have := I.closed j i hli this.2
          rw [h0] at this; cases this
        · cases hz
    have hset : ∀ i, (listed.setIfInBounds j true).getD i false = lset (fun i => listed.getD i false) j i := by
      intro i
      by_cases hij : i = j
      · subst hij; simp [lset, I.size, hlt]
      · rw [getD_set_ne false (Ne.symm hij)]; simp [lset, hij]
    unfold wpOpIn
    rw [ho]
    refine hops j o ho b _ V hK h0 hwl m a w s hT _ _ fun v m' w' x V' ⟨b', hx, hxs, hK'⟩ hv s' f' => ?_
    have hd : ∀ t, o.dst = some t → t < a.tmps.size := by
      intro t ht
      have := ok.dst j o ho
      rw [ht] at this
      simp only [dstOK, decide_eq_true_eq] at this
      rw [I.asz]; exact this
    refine ih (listed.setIfInBounds j true) b' V' m' (a.put o.dst v) w' ⟨by simp [I.size], ?_, by rw [put_size]; exact I.asz, ?_, ?_⟩ ?_ ?_ s' (by cases o.dst <;> exact df.fr f') (f.trans f')
    · intro i k hk hw
      rw [hset] at hk ⊢
      simp only [lset] at hk ⊢
      split
      · rfl
      · split at hk
        · rename_i hkj; subst hkj; exact hwl i hw
        · exact I.closed i k hk hw
    · intro i oi t hoi hli hdt
      rw [hset] at hli
      simp only [lset] at hli
      split at hli
      · rename_i hij
        subst hij
        rw [ho] at hoi
        obtain rfl := Option.some.inj hoi
        rw [← hx (by rw [hdt]; simp), hdt]
        exact reads_put_same (hd t hdt) hv
      · rename_i hij
        have hne : o.dst ≠ some t := fun e => hij (ok.apart i j oi o t hoi ho hdt e)
        rw [hxs i hli]
        exact reads_put ((I.vals i oi t hoi hli hdt).mono f'.imm) v hne
    · intro t z hz hno
      have hne : o.dst ≠ some t := hno j o ho (by rw [hset]; simp [lset])
      exact reads_put ((I.base t z hz fun i oi hoi hli => hno i oi hoi (by rw [hset]; simp only [lset]; split; · rfl
                                                                           · exact hli)).mono f'.imm) v hne
    · have := left_set I.size hlt h0; omega
    · have : (fun i => (listed.setIfInBounds j true).getD i false) = lset (fun i => listed.getD i false) j := funext hset
      rw [this]; exact hK'

/-- What each operation of a list, from number j on, has to keep. -/
def Obl (ρ : Option Nat) (P : Program) (ops : Array Oper) (base : List (Nat × AVal)) (n : Nat) (xs : β → Nat → AVal) (K : β → (Nat → Bool) → View → Prop) : Nat → List Oper → Prop
  | _, [] => True
  | j, o :: r => (∀ b L V, K b L V → L j = false → (∀ i, waits ops i j = true → L i = true) →
      OpP ρ P ops o (depSt ops base n (xs b) j o) V fun x V' => ∃ b', (o.dst ≠ none → x = xs b' j) ∧ (∀ i, L i = true → xs b' i = xs b i) ∧ K b' (lset L j) V') ∧ Obl ρ P ops base n xs K (j + 1) r

theorem Obl.get {base : List (Nat × AVal)} {n : Nat} {xs : β → Nat → AVal} {K : β → (Nat → Bool) → View → Prop} : ∀ {l : List Oper} {k : Nat}, Obl ρ P ops base n xs K k l → ∀ {j : Nat} {o : Oper}, l[j]? = some o →
    ∀ b L V, K b L V → L (k + j) = false → (∀ i, waits ops i (k + j) = true → L i = true) →
      OpP ρ P ops o (depSt ops base n (xs b) (k + j) o) V fun x V' => ∃ b', (o.dst ≠ none → x = xs b' (k + j)) ∧ (∀ i, L i = true → xs b' i = xs b i) ∧ K b' (lset L (k + j)) V'
  | [], _, _, j, o, h => by simp at h
  | x :: r, k, h, 0, o, hj => by
    simp at hj; subst hj; simpa using h.1
  | x :: r, k, h, j + 1, o, hj => by
    simp at hj
    have := Obl.get h.2 hj
    rwa [show k + 1 + j = k + (j + 1) by omega] at this

/-- **A region whose order is open, by what holds of any set of operations that are done.** -/
theorem a_any {id : Nat} {base : List (Nat × AVal)} {n : Nat} {V : View} (xs : β → Nat → AVal) (K : β → (Nat → Bool) → View → Prop) (b₀ : β) (hm : P.follows .mixedOrders = true) (hB : drawB ops (List.replicate ops.size false) n = true)
    (hK : K b₀ (fun _ => false) V) (hO : Obl ρ P ops base n xs K 0 ops.toList)
    (hQ : ∀ b L V, (∀ i, i < ops.size → L i = true) → K b L V → Q .normal ⟨finL ops (xs b) (List.range ops.size) ++ base, n⟩ V) : ATrip ρ P (.region id ops true) Q ⟨base, n⟩ V := by
  intro B m a w s t d
  refine wpIn_region_any hm ?_
  have s1 : Sat m V { w with drawn := w.drawn + 1 } := s.heap rfl
  have f1 : Fr m V w m V { w with drawn := w.drawn + 1 } := Fr.heap m V rfl ⟨⟨rfl, rfl⟩, fun _ => rfl⟩
  have hL : (fun i => (Array.replicate ops.size false).getD i false) = fun _ => false := by
    funext i
    rw [Array.getD_eq_getD_getElem?]
    by_cases hi : i < ops.size <;> simp [hi]
  refine any_main (drawB_ok hB) (fun j o ho => by
    have := Obl.get hO (j := j) (o := o) (by simpa using ho)
    simpa using this) hQ ops.size (Array.replicate ops.size false) b₀ V m a _ ⟨by simp, fun i j hj => ?_, t.1, fun i o t ho hi => ?_, fun u z hz _ => t.2 u z hz⟩ ?_ (by rw [hL]; exact hK) s1 (d.fr f1) f1
  · have h1 : (Array.replicate ops.size false).getD j false = false := congrFun hL j
    rw [h1] at hj; cases hj
  · have h1 : (Array.replicate ops.size false).getD i false = false := congrFun hL i
    rw [h1] at hi; cases hi
  · unfold left
    have := List.length_filter_le (fun i => !(Array.replicate ops.size false).getD i false) (List.range ops.size)
    simpa using this
#print axioms a_any
end
end Go.AV
