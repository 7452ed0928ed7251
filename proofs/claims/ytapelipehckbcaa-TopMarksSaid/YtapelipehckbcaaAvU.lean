/- The abstract view: what one owns as a list of blocks; maps that are ranged over. -/
import Derived.Test.YtapelipehckbcaaAvS
import Derived.Laws.IdiomRangeMap
namespace Go.AV
set_option linter.unusedVariables false
set_option linter.unusedSimpArgs false

variable {ρ : Option Nat} {P : Program} {Q : AQ} {st : ASt} {V V₀ V₁ : View} {o : Oper} {ops : Array Oper} {rest : List Oper}
  {d : Option Tmp} {ty : TypeId} {pos : String} {aft : Array Edge} {gd : Option (Nat × Bool)}

/-! ### Blocks that one owns beside a rest -/
abbrev Blks := List (Nat × AObj)
structure Own (V V₀ : View) (L : Blks) : Prop where
  le : V₀.le V
  nd : (L.map Prod.fst).Nodup
  at_ : ∀ p ∈ L, V p.1 = some p.2
  no : ∀ p ∈ L, V₀ p.1 = none

theorem Own.nil : Own V V [] := ⟨View.le_refl _, List.nodup_nil, fun _ h => (by cases h), fun _ h => (by cases h)⟩
theorem Own.mem {L : Blks} (h : Own V V₀ L) {b : Nat} {o : AObj} (hb : (b, o) ∈ L) : V b = some o := h.at_ _ hb
theorem Own.perm {L L' : Blks} (h : Own V V₀ L) (p : L'.Perm L) : Own V V₀ L' :=
  ⟨h.le, (p.map _).nodup_iff.2 h.nd, fun q hq => h.at_ q (p.mem_iff.1 hq), fun q hq => h.no q (p.mem_iff.1 hq)⟩
theorem Own.sub {L L' : Blks} (h : Own V V₀ L) (p : L'.Sublist L) : Own V V₀ L' :=
  ⟨h.le, (p.map _).nodup h.nd, fun q hq => h.at_ q (p.subset hq), fun q hq => h.no q (p.subset hq)⟩
theorem Own.add {L : Blks} (h : Own V V₀ L) {b : Nat} (o : AObj) (hb : V b = none) : Own (V.set b o) V₀ ((b, o) :: L) := by
  refine ⟨View.le_set h.le (View.le_none h.le hb), ?_, fun p hp => ?_, fun p hp => ?_⟩
  · simp only [List.map_cons, List.nodup_cons]
    refine ⟨fun hm => ?_, h.nd⟩
    obtain ⟨p, hp, he⟩ := List.mem_map.1 hm
    have := h.at_ p hp
    rw [he, hb] at this; cases this
  · rcases List.mem_cons.1 hp with rfl | hp
    · simp
    · have := h.at_ p hp
      have hne : p.1 ≠ b := by intro e; rw [e, hb] at this; cases this
      rw [View.set_other _ _ hne]; exact this
  · rcases List.mem_cons.1 hp with rfl | hp
    · exact View.le_none h.le hb
    · exact h.no p hp
theorem Own.set {A B : Blks} {b : Nat} {o : AObj} (h : Own V V₀ (A ++ (b, o) :: B)) (o' : AObj) : Own (V.set b o') V₀ (A ++ (b, o') :: B) := by
  have hb : V b = some o := h.mem (by simp)
  have h0 : V₀ b = none := h.no (b, o) (by simp)
  have hnd := h.nd
  simp only [List.map_append, List.map_cons] at hnd
  refine ⟨View.le_set h.le h0, by simpa using h.nd, fun p hp => ?_, fun p hp => ?_⟩
  · have key : ∀ q ∈ A ++ B, q.1 ≠ b := by
      intro q hq e
      rw [List.perm_middle.nodup_iff, List.nodup_cons] at hnd
      exact hnd.1 (by rw [← List.map_append]; exact List.mem_map.2 ⟨q, hq, e⟩)
    have : p = (b, o') ∨ p ∈ A ++ B := by simp at hp ⊢; rcases hp with h | h | h <;> simp [h]
    rcases this with rfl | hp
    · simp
    · rw [View.set_other _ _ (key p hp)]
      exact h.at_ p (by simp at hp ⊢; rcases hp with h | h <;> simp [h])
  · have : p = (b, o') ∨ p ∈ A ++ B := by simp at hp ⊢; rcases hp with h | h | h <;> simp [h]
    rcases this with rfl | hp
    · exact h0
    · exact h.no p (by simp at hp ⊢; rcases hp with h | h <;> simp [h])
theorem Own.set1 {B : Blks} {b : Nat} {o : AObj} (h : Own V V₀ ((b, o) :: B)) (o' : AObj) : Own (V.set b o') V₀ ((b, o') :: B) := Own.set (A := []) h o'
/-- The view without some blocks. -/
def View.without (V : View) (L : Blks) : View := fun b => if b ∈ L.map Prod.fst then none else V b
theorem Own.split {L1 L2 : Blks} (h : Own V V₀ (L1 ++ L2)) : ∃ V₁, Own V V₁ L1 ∧ Own V₁ V₀ L2 := by
  have hnd := h.nd
  rw [List.map_append, List.nodup_append] at hnd
  refine ⟨V.without L1, ⟨fun b o hb => ?_, hnd.1, fun p hp => h.at_ p (by simp [hp]), fun p hp => ?_⟩, ⟨fun b o hb => ?_, hnd.2.1, fun p hp => ?_, fun p hp => h.no p (by simp [hp])⟩⟩
  · unfold View.without at hb; split at hb
    · cases hb
    · exact hb
  · unfold View.without; rw [if_pos (List.mem_map.2 ⟨p, hp, rfl⟩)]
  · unfold View.without
    rw [if_neg (fun hm => ?_)]
    · exact h.le _ _ hb
    · obtain ⟨p, hp, he⟩ := List.mem_map.1 hm
      have := h.no p (by simp [hp]); rw [he, hb] at this; cases this
  · unfold View.without
    rw [if_neg (fun hm => hnd.2.2 _ hm _ (List.mem_map.2 ⟨p, hp, rfl⟩) rfl)]
    exact h.at_ p (by simp [hp])
theorem Own.join {L1 L2 : Blks} (h : Own V V₁ L1) (k : Own V₁ V₀ L2) : Own V V₀ (L1 ++ L2) := by
  refine ⟨View.le_trans k.le h.le, ?_, fun p hp => ?_, fun p hp => ?_⟩
  · rw [List.map_append, List.nodup_append]
    refine ⟨h.nd, k.nd, fun a ha b hb e => ?_⟩
    obtain ⟨p, hp, rfl⟩ := List.mem_map.1 ha
    obtain ⟨q, hq, rfl⟩ := List.mem_map.1 hb
    have h1 := h.no p hp
    have h2 := k.at_ q hq
    rw [e, h2] at h1; cases h1
  · rcases List.mem_append.1 hp with hp | hp
    · exact h.at_ p hp
    · exact h.le _ _ (k.at_ p hp)
  · rcases List.mem_append.1 hp with hp | hp
    · exact View.le_none k.le (h.no p hp)
    · exact k.no p hp
/-- The view of what one owns and no more. -/
theorem Own.grow {L : Blks} {V' : View} (h : Own V V₀ L) (hV : V.le V') : Own V' V₀ L := ⟨View.le_trans h.le hV, h.nd, fun p hp => hV _ _ (h.at_ p hp), h.no⟩

/-! ### Slices of one's own among them -/
def Part (x : AVal) (sz n : Nat) (cs : List AVal) (L : Blks) : Prop :=
  (x = .v (.slice none 0 0) ∧ n = 0 ∧ cs = [] ∧ L = []) ∨ ∃ b cap, n ≤ cap ∧ x = .v (.slice (some ⟨b, 0, none⟩) n cap) ∧ cs.length = n * sz ∧ L = [(b, .rown cs (some (cap * sz)))]
theorem partNil {sz : Nat} : Part (.v (.slice none 0 0)) sz 0 [] [] := .inl ⟨rfl, rfl, rfl, rfl⟩
theorem Part.acc {x : AVal} {sz n : Nat} {cs : List AVal} {L : Blks} (h : Part x sz n cs L) (k : Own V V₀ L) : ∃ V₁, Acc V x sz n cs V₁ ∧ V₀.le V₁ := by
  rcases h with ⟨rfl, rfl, rfl, rfl⟩ | ⟨b, cap, h1, rfl, h2, rfl⟩
  · exact ⟨V, accNil, k.le⟩
  · exact ⟨V.drop b, .inr ⟨b, cap, h1, by simp, rfl, h2, k.mem (by simp), rfl⟩, View.le_drop k.le (k.no _ (List.mem_singleton.2 rfl))⟩
theorem Part.acc' {x : AVal} {sz n : Nat} {cs : List AVal} {L L2 : Blks} (h : Part x sz n cs L) (k : Own V V₀ (L ++ L2)) : ∃ V₁, Acc V x sz n cs V₁ ∧ Own V₁ V₀ L2 := by
  obtain ⟨W, k1, k2⟩ := k.split
  obtain ⟨V₁, h1, h2⟩ := h.acc k1
  exact ⟨V₁, h1, k2.grow h2⟩
theorem acc_part {x : AVal} {sz n : Nat} {cs : List AVal} (h : Acc V x sz n cs V₁) : ∃ L, Part x sz n cs L ∧ Own V V₁ L := by
  rcases h with ⟨rfl, rfl, rfl, rfl⟩ | ⟨b, cap, h1, h0, rfl, h3, h4, h5⟩
  · exact ⟨[], partNil, Own.nil⟩
  · refine ⟨_, .inr ⟨b, cap, h1, rfl, h3, rfl⟩, ⟨?_, by simp, fun p hp => ?_, fun p hp => ?_⟩⟩
    · subst h5; exact View.drop_le V b
    · rw [List.mem_singleton.1 hp]; exact h4
    · rw [List.mem_singleton.1 hp]; exact h0
theorem Part.row {x : AVal} {sz n : Nat} {cs : List AVal} {L : Blks} (h : Part x sz n cs L) (hV : ∀ p ∈ L, V p.1 = some p.2) : Row V x sz n cs := by
  rcases h with ⟨rfl, rfl, rfl, rfl⟩ | ⟨b, cap, h1, rfl, h2, rfl⟩
  · exact .inl ⟨rfl, rfl, rfl⟩
  · exact .inr ⟨b, cap, h1, rfl, h2, hV _ (List.mem_singleton.2 rfl)⟩
theorem Part.val {x : AVal} {sz n : Nat} {cs : List AVal} {L : Blks} (h : Part x sz n cs L) : ∃ ad cap, x = .v (.slice ad n cap) := by
  rcases h with ⟨rfl, rfl, rfl, rfl⟩ | ⟨b, cap, h1, rfl, h2, rfl⟩ <;> exact ⟨_, _, rfl⟩

/-! ### A map laid open -/
/-- What one knows of a map's entries. -/
structure Ents (l : List (Value × AVal)) (es : Array MapEntry) (clock : Nat) : Prop where
  pm : (es.toList.map fun e => (e.key, AVal.v e.val)).Perm l
  nd : (l.map Prod.fst).Nodup
  bn : (es.toList.map (·.born)).Nodup
  lt : ∀ e ∈ es.toList, e.born < clock
theorem MpL.exact {m : Imm} : ∀ {l : List (Value × AVal)} {es : List MapEntry}, MpL m l es → (∀ p ∈ l, ∃ u, p.2 = .v u) → es.map (fun e => (e.key, AVal.v e.val)) = l
  | [], es, h, _ => by simp only [MpL] at h; subst h; rfl
  | (k, x) :: l, es, h, hv => by
    simp only [MpL] at h
    obtain ⟨e, r, rfl, h1, h2, h3⟩ := h
    obtain ⟨u, hu⟩ := hv (k, x) (by simp)
    simp only at hu; subst hu
    simp only [Tr] at h2
    simp [h1, h2, MpL.exact h3 (fun p hp => hv p (by simp [hp]))]
theorem MpL.of_exact (m : Imm) : ∀ (es : List MapEntry), MpL m (es.map fun e => (e.key, AVal.v e.val)) es
  | [] => rfl
  | e :: es => by simp only [List.map_cons, MpL]; exact ⟨e, es, rfl, rfl, by simp [Tr], MpL.of_exact m es⟩
theorem a_openmap {c : Code} {b : Nat} {l : List (Value × AVal)} (hb : V b = some (.mp l)) (hv : ∀ p ∈ l, ∃ u, p.2 = .v u)
    (h : ∀ es clock, Ents l es clock → ATrip ρ P c Q st (V.set b (.raw (.map es clock)))) : ATrip ρ P c Q st V := fun B m q w s t dd => by
  obtain ⟨o', ho, es, clock, l', rfl, hp, hm, hnd, hbn, hbl⟩ := s.obj b _ hb
  have he := hm.exact (fun p hp' => hv p (hp.mem_iff.1 hp'))
  have hE : Ents l es clock := ⟨by rw [he]; exact hp, hnd, hbn, hbl⟩
  have hlt := (Array.getElem?_eq_some_iff.1 ho).1
  have hok : AObj.OK m (.raw (.map es clock)) (.map es clock) := ⟨rfl, trivial⟩
  have s' : Sat m (V.set b (.raw (.map es clock))) w := ⟨fun k cs hk => by
      obtain ⟨h1, h2⟩ := s.imm k cs hk
      have hne : k ≠ b := by rintro rfl; rw [hb] at h1; cases h1
      exact ⟨by rw [View.set_other _ _ hne]; exact h1, h2⟩, fun k x hk => by
      by_cases e : k = b
      · subst e; simp at hk; subst hk; exact ⟨_, ho, hok⟩
      · rw [View.set_other _ _ e] at hk; exact s.obj k x hk⟩
  have f : Fr m V w m (V.set b (.raw (.map es clock))) w := ⟨Nat.le_refl _, Imm.le_refl _, fun k hk hV => ⟨by
      have hne : k ≠ b := by rintro rfl; rw [hb] at hV; cases hV
      rw [View.set_other _ _ hne]; exact hV, rfl⟩, Quiet.refl _⟩
  exact wpIn_mono (h es clock hE B m q w s' t (dd.fr f)) (conc_later f)
theorem a_closemap {c : Code} {b : Nat} {l : List (Value × AVal)} {es : Array MapEntry} {clock : Nat} (hb : V b = some (.raw (.map es clock))) (hE : Ents l es clock)
    (h : ATrip ρ P c Q st (V.set b (.mp l))) : ATrip ρ P c Q st V := fun B m q w s t dd => by
  obtain ⟨o', ho, rfl, _⟩ := s.obj b _ hb
  have hok : AObj.OK m (.mp l) (.map es clock) := ⟨es, clock, _, rfl, hE.pm, MpL.of_exact m _, hE.nd, hE.bn, hE.lt⟩
  have s' : Sat m (V.set b (.mp l)) w := ⟨fun k cs hk => by
      obtain ⟨h1, h2⟩ := s.imm k cs hk
      have hne : k ≠ b := by rintro rfl; rw [hb] at h1; cases h1
      exact ⟨by rw [View.set_other _ _ hne]; exact h1, h2⟩, fun k x hk => by
      by_cases e : k = b
      · subst e; simp at hk; subst hk; exact ⟨_, ho, hok⟩
      · rw [View.set_other _ _ e] at hk; exact s.obj k x hk⟩
  have f : Fr m V w m (V.set b (.mp l)) w := ⟨Nat.le_refl _, Imm.le_refl _, fun k hk hV => ⟨by
      have hne : k ≠ b := by rintro rfl; rw [hb] at hV; cases hV
      rw [View.set_other _ _ hne]; exact hV, rfl⟩, Quiet.refl _⟩
  exact wpIn_mono (h B m q w s' t (dd.fr f)) (conc_later f)

theorem s_range {t kt et : TypeId} {y : Operand} {b : Nat} {es : Array MapEntry} {clock : Nat} (ht : P.underlying t = some (.map kt et)) (hb : V b = some (.raw (.map es clock))) (hy : Ev st y (.v (.map (some b)))) :
    OpS ρ P ⟨d, .range t y, ty, pos, aft, gd⟩ st V (fun x V' => ∃ i, V i = none ∧ x = .v (.pointer (some ⟨i, 0, none⟩)) ∧ V' = V.set i (.raw (.mapIter (some b) clock #[] clock))) :=
  opS_of_run (by intro c h; cases h) fun m a w s q => by
    have h1 : a.eval y = .map (some b) := by simpa [Tr] using hy m a q
    obtain ⟨o', ho, rfl, _⟩ := s.obj b _ hb
    have hok : AObj.OK m (.raw (.mapIter (some b) clock #[] clock)) (.mapIter (some b) clock #[] clock) := ⟨rfl, trivial⟩
    obtain ⟨s', f⟩ := s.alloc hok
    refine ⟨.value (.pointer (some ⟨w.heap.size, 0, none⟩)), _, m, _, _, .pointer (some ⟨w.heap.size, 0, none⟩), ?_, .inl rfl, ⟨w.heap.size, s.fresh, rfl, rfl⟩, by simp [Tr], s', f⟩
    simp [execOp, h1, run_range_map w t kt et b es clock ht ho, Sem.run_bind, Result.andThen]

theorem run_next_any {w : World} {ty : TypeId} {bi bm clock : Nat} {seen : Array Nat} {es : Array MapEntry} (hi : w.heap[bi]? = some (.mapIter (some bm) clock seen clock)) (hb : w.heap[bm]? = some (.map es clock)) (hlt : ∀ e ∈ es.toList, e.born < clock) :
    ((leftOf es seen).size = 0 ∧ ∃ w', w'.heap = w.heap ∧ w'.os = w.os ∧ w'.output = w.output ∧ (Instr.next (.pointer (some ⟨bi, 0, none⟩)) false ty).run P w = .ok (.tuple #[.bool false]) w') ∨
    ∃ e ∈ (leftOf es seen).toList, ∃ w1 : World, w1.heap = w.heap ∧ w1.os = w.os ∧ w1.output = w.output ∧ (Instr.next (.pointer (some ⟨bi, 0, none⟩)) false ty).run P w = .ok (.tuple #[.bool true, e.key, e.val]) (w1.putObj bi (.mapIter (some bm) clock (seen.push e.born) clock)) := by
  simp only [Instr.next, getObj, Sem.run_bind, Sem.run, hi, hb, Result.andThen, next_test_false seen es clock clock hlt (Nat.le_refl _), Bool.false_eq_true, if_false]
  unfold leftOf
  have hmem : ∀ x ∈ (Array.filter (fun e => !seen.contains e.born) es).toList, x.born < clock := fun x hx => hlt x (by simp at hx ⊢; exact hx.1)
  generalize Array.filter (fun e => !seen.contains e.born) es = L at hmem ⊢
  have e1 : L.filter (fun x => decide (x.born < clock)) = L := Array.filter_eq_self.2 (fun x hx => by simpa using hmem x (by simpa using hx))
  have e2 : L.filter (fun x => decide (x.born ≥ clock)) = #[] := by
    rw [Array.filter_eq_empty_iff]
    intro x hx
    have := hmem x (by simpa using hx)
    simp
    omega
  simp only [e1, e2, Array.append_empty]
  by_cases h0 : L.size = 0
  · left
    have : L = #[] := Array.eq_empty_of_size_eq_zero h0
    subst this
    refine ⟨rfl, w, rfl, rfl, rfl, ?_⟩
    simp [choose, Sem.run, Question.forced]
  · right
    have hne : L.isEmpty = false := by simp [Array.isEmpty, h0]
    simp only [hne, Bool.false_eq_true, if_false, Array.empty_append, Array.size_map]
    have hch : ∃ (j : Nat) (w1 : World), j < L.size ∧ w1.Alike w ∧ (choose (Question.mapNext L.size)).run P w = .ok j w1 := by
      by_cases hf : L.size ≤ 1
      · exact ⟨0, w, by omega, ⟨rfl, rfl, rfl⟩, by simp [choose, Sem.run, Question.forced, hf]⟩
      · exact ⟨_, w.drew, Nat.mod_lt _ (by omega), ⟨rfl, rfl, rfl⟩, by
          simp only [choose, Sem.run, Question.forced, decide_eq_true_eq, hf, if_false, Question.cut]
          rfl⟩
    obtain ⟨j, w1, hj, hal, hrun⟩ := hch
    refine ⟨L[j], by simp, w1, hal.1, hal.2.1, hal.2.2, ?_⟩
    have hset : ∀ o', (setObj bi o').run P w1 = .ok () (w1.putObj bi o') := fun o' => by
      simp [setObj, Sem.run, hal.1, hi, World.putObj]
    simp only [hrun, Array.getElem?_map, Array.getElem?_eq_getElem hj, Option.map_some, Sem.run_bind, hset, Result.andThen]
    rfl
theorem quiet_of {w w' : World} (h : w'.heap = w.heap) (ho : w'.os = w.os) (hp : w'.output = w.output) : Quiet w w' := ⟨⟨ho, hp⟩, fun a => by unfold World.frozen?; rw [h]⟩
theorem s_next {y : Operand} {i b clock : Nat} {seen : Array Nat} {es : Array MapEntry} (hb : V b = some (.raw (.map es clock))) (hi : V i = some (.raw (.mapIter (some b) clock seen clock))) (hlt : ∀ e ∈ es.toList, e.born < clock)
    (hy : Ev st y (.v (.pointer (some ⟨i, 0, none⟩)))) :
    OpS ρ P ⟨d, .next y false, ty, pos, aft, gd⟩ st V (fun x V' => ((leftOf es seen).size = 0 ∧ x = .tuple [.v (.bool false)] ∧ V' = V) ∨
      ∃ e ∈ (leftOf es seen).toList, x = .tuple [.v (.bool true), .v e.key, .v e.val] ∧ V' = V.set i (.raw (.mapIter (some b) clock (seen.push e.born) clock))) :=
  opS_of_run (by intro c h; cases h) fun m a w s q => by
    have h1 : a.eval y = .pointer (some ⟨i, 0, none⟩) := by simpa [Tr] using hy m a q
    obtain ⟨o', ho, rfl, _⟩ := s.obj b _ hb
    obtain ⟨o', hoi, rfl, _⟩ := s.obj i _ hi
    rcases run_next_any (P := P) (ty := ty) hoi ho hlt with ⟨h0, w', e1, e2, e3, hr⟩ | ⟨e, he, w1, e1, e2, e3, hr⟩
    · refine ⟨.value (.tuple #[.bool false]), w', m, V, _, .tuple #[.bool false], ?_, .inl rfl, .inl ⟨h0, rfl, rfl⟩, by simp [Tr, TrL], s.heap e1, Fr.heap m V e1 (quiet_of e1 e2 e3)⟩
      simp [execOp, h1, hr, Sem.run_bind, Result.andThen]
    · have s1 := s.heap e1
      have hoi1 : w1.heap[i]? = some (.mapIter (some b) clock seen clock) := by rw [e1]; exact hoi
      have hltb := (Array.getElem?_eq_some_iff.1 hoi1).1
      have hok : AObj.OK m (.raw (.mapIter (some b) clock (seen.push e.born) clock)) (.mapIter (some b) clock (seen.push e.born) clock) := ⟨rfl, trivial⟩
      obtain ⟨s', f⟩ := s1.put hi hok World.putObj_size (World.putObj_heap_same hltb) (fun k hk => World.putObj_heap_other hk) ⟨rfl, rfl⟩
      refine ⟨.value (.tuple #[.bool true, e.key, e.val]), _, m, _, _, .tuple #[.bool true, e.key, e.val], ?_, .inl rfl, .inr ⟨e, he, rfl, rfl⟩, by simp [Tr, TrL], s', (Fr.heap m V e1 (quiet_of e1 e2 e3)).trans f⟩
      simp [execOp, h1, hr, Sem.run_bind, Result.andThen]
theorem s_entry {y : Operand} {i b clock : Nat} {seen : Array Nat} {es : Array MapEntry} {e : MapEntry} {us : List Value} {u : Value} (hb : V b = some (.raw (.map es clock))) (hi : V i = some (.raw (.mapIter (some b) clock (seen.push e.born) clock)))
    (hn : (es.toList.map (·.born)).Nodup) (he : e ∈ es.toList) (hk : e.key = .agg ⟨us⟩) (hu : e.val = u) (hy : Ev st y (.v (.pointer (some ⟨i, 0, none⟩)))) :
    OpS ρ P ⟨d, .entry y, ty, pos, aft, gd⟩ st V (One (.tuple [.agg (us.map .v), .v u]) V) :=
  opS_pure (by intro c h; cases h) fun m a w s q => by
    have h1 : a.eval y = .pointer (some ⟨i, 0, none⟩) := by simpa [Tr] using hy m a q
    obtain ⟨o', ho, rfl, _⟩ := s.obj b _ hb
    obtain ⟨o', hoi, rfl, _⟩ := s.obj i _ hi
    have hf : es.find? (·.born == e.born) = some e := by rw [← Array.find?_toList]; exact find_born e es.toList hn he
    refine ⟨.tuple #[.agg ⟨us⟩, u], w, ?_, rfl, ?_⟩
    · have hE : (Instr.entry (.pointer (some ⟨i, 0, none⟩))).run P w = .ok (.tuple #[.agg ⟨us⟩, u]) w := by
        rw [← hk, ← hu]
        simp only [Instr.entry, getObj, Sem.run_bind, Sem.run, hoi, ho, Result.andThen, Array.back?_push, bne_self_eq_false, Bool.false_eq_true, if_false, hf]
        rfl
      simp [execOp, h1, hE, Sem.run_bind, Result.andThen]
    · simp only [Tr, TrL]
      exact ⟨_, rfl, _, _, rfl, ⟨us, rfl, TrL_exact m us⟩, _, _, rfl, rfl, rfl⟩
/-- A key that is cells. -/
theorem ev_agg {y : Operand} {us : List Value} (h : Ev st y (.agg (us.map .v))) : Ev st y (.v (.agg ⟨us⟩)) := fun m a q => by
  have h1 := h m a q
  simp only [Tr] at h1 ⊢
  obtain ⟨vs, e, hl⟩ := h1
  rw [e, TrL_vals hl]

/-! ### Maps against nil, interfaces, maps.Clone -/
theorem run_eqmnil {t kt et : TypeId} (h : P.underlying t = some (.map kt et)) (n b : Nat) (w : World) : (Op.equalIn (n + 1) t (.map (some b)) (.map none)).run P w = .ok false w := by
  simp [Op.equalIn, run_underlying h, Sem.run_bind, Result.andThen]
theorem run_equal_mnil {t kt et : TypeId} (h : P.underlying t = some (.map kt et)) (b : Nat) (w : World) : (Op.equal t (.map (some b)) (.map none)).run P w = .ok false w := run_eqmnil h 9999 b w
theorem s_mapnil {op : BinOp} {t kt et t' : TypeId} {y : Operand} {b : Nat} {r : Bool} (ht : P.underlying t = some (.map kt et)) (hy : Ev st y (.v (.map (some b)))) (hr : op = .eql ∧ r = false ∨ op = .neq ∧ r = true) :
    OpS ρ P ⟨d, .binOp op t y (.const (.map none)) t', ty, pos, aft, gd⟩ st V (One (.v (.bool r)) V) :=
  opS_pure (by intro c h; cases h) fun m a w s q => by
    have hv : a.eval y = .map (some b) := by simpa [Tr] using hy m a q
    have hc0 : a.eval (.const (.map none)) = .map none := rfl
    have hE := run_equal_mnil ht b w
    refine ⟨.bool r, w, ?_, rfl, by simp [Tr]⟩
    rcases hr with ⟨rfl, rfl⟩ | ⟨rfl, rfl⟩ <;> simp [execOp, hv, hc0, eqGuard, binOp, hE, Sem.run_bind, Result.andThen]
#print axioms a_openmap
#print axioms s_next
#print axioms s_entry
#print axioms s_mapnil
end Go.AV
