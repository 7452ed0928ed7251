/- The abstract view: maps. -/
import Derived.Test.YtapelipehckbcaaAvQ
import Derived.WideKeyMaps
namespace Go.AV
set_option linter.unusedVariables false
set_option linter.unusedSimpArgs false

variable {ρ : Option Nat} {P : Program} {Q : AQ} {st : ASt} {V : View} {o : Oper} {ops : Array Oper} {rest : List Oper}
  {d : Option Tmp} {ty : TypeId} {pos : String} {aft : Array Edge} {gd : Option (Nat × Bool)}

/-! ### What keys are like -/
structure KLaw (P : Program) (kt : TypeId) (ok : Value → Prop) : Prop where
  check : ∀ (w : World) (em : Bool) (v : Value), ok v → (Instr.checkKey em 10000 kt v).run P w = .ok () w
  find : ∀ (w : World) (x : Value), ok x → ∀ es : List MapEntry, (∀ e ∈ es, ok e.key) →
    ((Instr.findKey kt x es).run P w = .ok none w ∧ ∀ e ∈ es, e.key ≠ x) ∨ ∃ j e, (Instr.findKey kt x es).run P w = .ok (some (j, e.val)) w ∧ es[j]? = some e ∧ e.key = x
  stays : ∀ (w : World) (v : Value), ok v → (Instr.keyThatStays v v).run P w = .ok v w
theorem klaw_plain {kt : TypeId} {td : TypeDesc} (hk : P.underlying kt = some td) : KLaw P kt (MapKept.IsKey td) where
  check w em v h := MapKept.run_checkKey hk h em 9999
  find w x hx es hes := by
    rcases MapKept.findNow_spec hx es 0 hes with ⟨h1, h2⟩ | ⟨j, e0, h1, h2, h3⟩
    · exact Or.inl ⟨MapKept.run_findKey hk h1, h2⟩
    · exact Or.inr ⟨j, e0, by simpa using MapKept.run_findKey hk h1, h2, h3⟩
  stays w v h := MapKept.run_keyThatStays h
theorem klaw_wide {kt : TypeId} (K : WideMaps.KeyLaw P kt) : KLaw P kt (fun v => ∃ l, keyOf P kt v = some l) where
  check w em v h := by obtain ⟨l, h⟩ := h; exact K.check w em h
  find w x hx es hes := by obtain ⟨l, hx⟩ := hx; exact K.find w hx es hes
  stays w v h := by obtain ⟨l, h⟩ := h; exact K.stays w h

/-! ### Entries -/
theorem MpL.keys {m : Imm} : ∀ {l : List (Value × AVal)} {es : List MapEntry}, MpL m l es → es.map (·.key) = l.map Prod.fst
  | [], es, h => by simp only [MpL] at h; subst h; rfl
  | (k, x) :: l, es, h => by
    simp only [MpL] at h
    obtain ⟨e, r, rfl, h1, h2, h3⟩ := h
    simp [h1, MpL.keys h3]
theorem MpL.len {m : Imm} {l : List (Value × AVal)} {es : List MapEntry} (h : MpL m l es) : es.length = l.length := by
  have := congrArg List.length h.keys
  simpa using this
theorem MpL.append {m : Imm} : ∀ {l l' : List (Value × AVal)} {es es' : List MapEntry}, MpL m l es → MpL m l' es' → MpL m (l ++ l') (es ++ es')
  | [], l', es, es', h, k => by simp only [MpL] at h; subst h; exact k
  | (a, x) :: l, l', es, es', h, k => by
    simp only [MpL] at h
    obtain ⟨e, r, rfl, h1, h2, h3⟩ := h
    simp only [List.cons_append, MpL]
    exact ⟨e, r ++ es', rfl, h1, h2, MpL.append h3 k⟩
theorem MpL.at {m : Imm} : ∀ {l : List (Value × AVal)} {es : List MapEntry}, MpL m l es → ∀ {j : Nat} {e : MapEntry}, es[j]? = some e → ∃ a x b, l = a ++ (e.key, x) :: b ∧ a.length = j ∧ Tr m x e.val ∧ MpL m a (es.take j) ∧ MpL m b (es.drop (j + 1))
  | [], es, h, j, e, he => by simp only [MpL] at h; subst h; simp at he
  | (k, x) :: l, es, h, j, e, he => by
    simp only [MpL] at h
    obtain ⟨e0, r, rfl, h1, h2, h3⟩ := h
    cases j with
    | zero => simp at he; subst he; exact ⟨[], x, l, by simp [h1], rfl, h2, rfl, by simpa using h3⟩
    | succ j =>
      simp at he
      obtain ⟨a, y, b, e1, e2, e3, e4, e5⟩ := MpL.at h3 he
      refine ⟨(k, x) :: a, y, b, by rw [e1]; rfl, by simp [e2], e3, ?_, by simpa using e5⟩
      simp only [List.take_succ_cons, MpL]
      exact ⟨e0, _, rfl, h1, h2, e4⟩
theorem mem_keys {l : List (Value × AVal)} {k : Value} {x : AVal} (h : (k, x) ∈ l) : k ∈ l.map Prod.fst := List.mem_map.2 ⟨_, h, rfl⟩
theorem nodup_val {l : List (Value × AVal)} (h : (l.map Prod.fst).Nodup) {k : Value} {x y : AVal} (h1 : (k, x) ∈ l) (h2 : (k, y) ∈ l) : x = y := by
  induction l with
  | nil => cases h1
  | cons p l ih =>
    simp only [List.map_cons, List.nodup_cons] at h
    rcases List.mem_cons.1 h1 with e1 | h1 <;> rcases List.mem_cons.1 h2 with e2 | h2
    · rw [← e1] at e2; exact (Prod.mk.inj e2).2.symm
    · exfalso; apply h.1; rw [← e1]; exact mem_keys h2
    · exfalso; apply h.1; rw [← e2]; exact mem_keys h1
    · exact ih h.2 h1 h2

/-- What a look-up finds. -/
theorem mp_find {kt : TypeId} {ok : Value → Prop} (K : KLaw P kt ok) {m : Imm} {w : World} {l l' : List (Value × AVal)} {es : List MapEntry} (hp : l'.Perm l) (hm : MpL m l' es) (hk : ∀ p ∈ l, ok p.1) {x : Value} (hx : ok x) :
    ((Instr.findKey kt x es).run P w = .ok none w ∧ ∀ p ∈ l, p.1 ≠ x) ∨ ∃ j e a y b, (Instr.findKey kt x es).run P w = .ok (some (j, e.val)) w ∧ es[j]? = some e ∧ e.key = x ∧ l' = a ++ (x, y) :: b ∧ a.length = j ∧ Tr m y e.val ∧ MpL m a (es.take j) ∧ MpL m b (es.drop (j + 1)) := by
  have hkeys := hm.keys
  have hke : ∀ e ∈ es, ok e.key := by
    intro e he
    have : e.key ∈ l'.map Prod.fst := by rw [← hkeys]; exact List.mem_map.2 ⟨e, he, rfl⟩
    obtain ⟨p, hpm, hpe⟩ := List.mem_map.1 this
    rw [← hpe]; exact hk p (hp.mem_iff.1 hpm)
  rcases K.find w x hx es hke with ⟨h1, h2⟩ | ⟨j, e, h1, h2, h3⟩
  · refine .inl ⟨h1, fun p hpm he => ?_⟩
    have : x ∈ es.map (·.key) := by rw [hkeys, ← he]; exact List.mem_map.2 ⟨p, hp.mem_iff.2 hpm, rfl⟩
    obtain ⟨e, he1, he2⟩ := List.mem_map.1 this
    exact h2 e he1 he2
  · obtain ⟨a, y, b, e1, e2, e3, e4, e5⟩ := hm.at h2
    exact .inr ⟨j, e, a, y, b, h1, h2, h3, by rw [e1, h3], e2, e3, e4, e5⟩

theorem run_setObj_map' {w : World} {r : Nat} {es : Array MapEntry} {clock : Nat} (o : Obj) (hb : w.heap[r]? = some (.map es clock)) : (setObj r o).run P w = .ok () (w.putObj r o) := by
  simp [setObj, Sem.run, hb, World.putObj]
/-- A map whose entries turn. -/
theorem Sat.mput {m : Imm} {w : World} (s : Sat m V w) {b : Nat} {l : List (Value × AVal)} (hb : V b = some (.mp l)) {l' : List (Value × AVal)} {o : Obj} (ho : (AObj.mp l').OK m o) (hp : plainO (some o)) :
    Sat m (V.set b (.mp l')) (w.putObj b o) ∧ Fr m V w m (V.set b (.mp l')) (w.putObj b o) := by
  obtain ⟨o', h, _⟩ := s.obj b _ hb
  have hlt := (Array.getElem?_eq_some_iff.1 h).1
  exact s.put hb ho World.putObj_size (World.putObj_heap_same hlt) (fun k hk => World.putObj_heap_other hk) ⟨rfl, rfl⟩

theorem s_makemap {t : TypeId} : OpS ρ P ⟨d, .makeMap t none, ty, pos, aft, gd⟩ st V (fun x V' => ∃ b, V b = none ∧ x = .v (.map (some b)) ∧ V' = V.set b (.mp [])) :=
  opS_of_run (by intro c h; cases h) fun m a w s q => by
    have hok : AObj.OK m (.mp []) (.map #[] 0) := ⟨#[], 0, [], rfl, List.Perm.refl _, rfl, List.nodup_nil, List.nodup_nil, fun e he => by cases he⟩
    obtain ⟨s', f⟩ := s.alloc hok
    refine ⟨.value (.map (some w.heap.size)), _, m, _, _, .map (some w.heap.size), ?_, .inl rfl, ⟨w.heap.size, s.fresh, rfl, rfl⟩, by simp [Tr], s', f⟩
    simp [execOp, Instr.makeMap, Sem.run_bind, Result.andThen, run_newObj_alloc]

theorem run_put {kt et t : TypeId} {ok : Value → Prop} (ht : P.underlying t = some (.map kt et)) (K : KLaw P kt ok) {m : Imm} {w : World} (s : Sat m V w) {b : Nat} {l : List (Value × AVal)} (hb : V b = some (.mp l)) (hk : ∀ p ∈ l, ok p.1)
    {x : Value} (hx : ok x) {u : Value} {y : AVal} (hu : Tr m y u) {l' : List (Value × AVal)}
    (hl : ((∀ p ∈ l, p.1 ≠ x) ∧ l'.Perm (l ++ [(x, y)])) ∨ ∃ p z r, l = p ++ (x, z) :: r ∧ l'.Perm (p ++ (x, y) :: r)) :
    ∃ w', (Instr.mapUpdate t (.map (some b)) x u).run P w = .ok () w' ∧ Sat m (V.set b (.mp l')) w' ∧ Fr m V w m (V.set b (.mp l')) w' := by
  obtain ⟨o', ho, es, clock, l₁, rfl, hp, hm, hnd, hbn, hbl⟩ := s.obj b _ hb
  have hget : (getObj b).run P w = .ok (.map es clock) w := MapKept.run_getObj_map ho
  rcases mp_find K (w := w) hp hm hk hx with ⟨h1, h2⟩ | ⟨j, e, a, z, r, h1, h2, h3, h4, h5, h6, h7, h8⟩
  · -- a new key
    have hl' : l'.Perm (l ++ [(x, y)]) := by
      rcases hl with ⟨_, h⟩ | ⟨p, z, r, rfl, _⟩
      · exact h
      · exact absurd rfl (h2 (x, z) (by simp))
    obtain ⟨s', f⟩ := s.mput hb (l' := l') (o := .map (es.push { key := x, val := u, born := clock }) (clock + 1)) ⟨_, _, l₁ ++ [(x, y)], rfl, (hp.append_right _).trans hl'.symm, by
        simp only [Array.toList_push]; exact hm.append ⟨_, [], rfl, rfl, hu, rfl⟩, by
        rw [(hl'.map _).nodup_iff, List.map_append, List.nodup_append]
        refine ⟨hnd, by simp, fun k hk1 k2 hk2 e => ?_⟩
        simp at hk2
        obtain ⟨p, hp1, hp2⟩ := List.mem_map.1 hk1
        exact h2 p hp1 (by rw [hp2, e, hk2]), by
        simp only [Array.toList_push, List.map_append, List.nodup_append]
        refine ⟨hbn, by simp, fun k hk1 k2 hk2 e => ?_⟩
        simp at hk2
        obtain ⟨p, hp1, hp2⟩ := List.mem_map.1 hk1
        have := hbl p hp1; omega, fun e he => by
        simp only [Array.toList_push, List.mem_append, List.mem_singleton] at he
        rcases he with he | rfl
        · have := hbl e he; omega
        · simp⟩ (by simp [plainO])
    refine ⟨_, ?_, s', f⟩
    simp [Instr.mapUpdate, run_underlying ht, Sem.run_bind, Result.andThen, hget, K.check w false x hx, h1, run_setObj_map' _ ho]
  · -- a key that is there
    have hzl : (x, z) ∈ l := hp.mem_iff.1 (by rw [h4]; simp)
    have hl' : l'.Perm (a ++ (x, y) :: r) := by
      rcases hl with ⟨h, _⟩ | ⟨p, z', r', rfl, h⟩
      · exact absurd rfl (h _ hzl)
      · refine h.trans ?_
        have hzz : z' = z := nodup_val hnd (by simp) hzl
        subst hzz
        rw [h4] at hp
        have h1 : ((x, z') :: (a ++ r)).Perm ((x, z') :: (p ++ r')) := List.perm_middle.symm.trans (hp.trans List.perm_middle)
        have h2 := (List.perm_cons _).1 h1
        exact List.perm_middle.trans ((h2.symm.cons _).trans List.perm_middle.symm)
    have hlt : j < es.size := by have := (List.getElem?_eq_some_iff.1 h2).1; simpa using this
    have hej : es[j]? = some e := by rw [← Array.getElem?_toList]; exact h2
    have hmod : (es.modify j fun e => { e with key := x, val := u }).toList = es.toList.take j ++ { e with key := x, val := u } :: es.toList.drop (j + 1) := by
      rw [Array.toList_modify]
      have hjl : j < es.toList.length := by simpa using hlt
      rw [List.modify_eq_take_cons_drop hjl]
      have := (List.getElem?_eq_some_iff.1 h2).2
      rw [this]
    have hsplit : es.toList = es.toList.take j ++ e :: es.toList.drop (j + 1) := by
      have hjl : j < es.toList.length := by simpa using hlt
      have hh := (List.getElem?_eq_some_iff.1 h2).2
      rw [← hh, ← List.drop_eq_getElem_cons hjl, List.take_append_drop]
    have hborn : (es.modify j fun e => { e with key := x, val := u }).toList.map (·.born) = es.toList.map (·.born) := by
      rw [hmod]; conv => rhs; rw [hsplit]
      simp
    obtain ⟨s', f⟩ := s.mput hb (l' := l') (o := .map (es.modify j fun e => { e with key := x, val := u }) clock) ⟨_, _, a ++ (x, y) :: r, rfl, hl'.symm, by
        rw [hmod]; exact h7.append ⟨_, _, rfl, rfl, hu, h8⟩, by
        rw [(hl'.map _).nodup_iff]
        have := (hp.map Prod.fst).nodup_iff.2 hnd
        rw [h4] at this
        simpa using this, by rw [hborn]; exact hbn, fun e' he' => by
        have : e'.born ∈ es.toList.map (·.born) := by rw [← hborn]; exact List.mem_map.2 ⟨e', he', rfl⟩
        obtain ⟨e2, he2, he3⟩ := List.mem_map.1 this
        rw [← he3]; exact hbl e2 he2⟩ (by simp [plainO])
    refine ⟨_, ?_, s', f⟩
    have hst : (Instr.keyThatStays (((es[j]?).map (·.key)).getD x) x).run P w = .ok x w := by
      rw [hej]; simp only [Option.map_some, Option.getD_some, h3]; exact K.stays w x hx
    simp [Instr.mapUpdate, run_underlying ht, Sem.run_bind, Result.andThen, hget, K.check w false x hx, h1, hst, run_setObj_map' _ ho]
theorem s_mapput {kt et t : TypeId} {y z u : Operand} {ok : Value → Prop} (ht : P.underlying t = some (.map kt et)) (K : KLaw P kt ok) {b : Nat} {l l' : List (Value × AVal)} (hb : V b = some (.mp l)) (hk : ∀ p ∈ l, ok p.1)
    {k : Value} {x : AVal} (hy : Ev st y (.v (.map (some b)))) (hz : Ev st z (.v k)) (hu : Ev st u x) (hkk : ok k)
    (hl : ((∀ p ∈ l, p.1 ≠ k) ∧ l'.Perm (l ++ [(k, x)])) ∨ ∃ p z r, l = p ++ (k, z) :: r ∧ l'.Perm (p ++ (k, x) :: r)) :
    OpS ρ P ⟨d, .mapUpdate t y z u, ty, pos, aft, gd⟩ st V (One (.v undef) (V.set b (.mp l'))) :=
  opS_of_run (by intro c h; cases h) fun m a w s q => by
    have h1 : a.eval y = .map (some b) := by simpa [Tr] using hy m a q
    have h2 : a.eval z = k := by simpa [Tr] using hz m a q
    obtain ⟨w', hr, s', f⟩ := run_put ht K s hb hk hkk (hu m a q) hl
    refine ⟨_, w', m, _, _, undef, ?_, .inr ⟨rfl, rfl⟩, ⟨rfl, rfl⟩, by simp [Tr], s', f⟩
    simp [execOp, h1, h2, hr, Sem.run_bind, Result.andThen]
theorem s_mapins {kt et t : TypeId} {y z u : Operand} {ok : Value → Prop} (ht : P.underlying t = some (.map kt et)) (K : KLaw P kt ok) {b : Nat} {l l' : List (Value × AVal)} (hb : V b = some (.mp l)) (hk : ∀ p ∈ l, ok p.1)
    {k : Value} {x : AVal} (hy : Ev st y (.v (.map (some b)))) (hz : Ev st z (.v k)) (hu : Ev st u x) (hkk : ok k)
    (hl : ((∀ p ∈ l, p.1 ≠ k) ∧ l'.Perm (l ++ [(k, x)])) ∨ ∃ p z r, l = p ++ (k, z) :: r ∧ l'.Perm (p ++ (k, x) :: r)) :
    OpS ρ P ⟨d, .insert t y z u, ty, pos, aft, gd⟩ st V (One (.v undef) (V.set b (.mp l'))) :=
  opS_of_run (by intro c h; cases h) fun m a w s q => by
    have h1 : a.eval y = .map (some b) := by simpa [Tr] using hy m a q
    have h2 : a.eval z = k := by simpa [Tr] using hz m a q
    obtain ⟨w', hr, s', f⟩ := run_put ht K s hb hk hkk (hu m a q) hl
    refine ⟨_, w', m, _, _, undef, ?_, .inr ⟨rfl, rfl⟩, ⟨rfl, rfl⟩, by simp [Tr], s', f⟩
    simp [execOp, h1, h2, hr, Sem.run_bind, Result.andThen]
theorem run_get {kt et t : TypeId} {ok : Value → Prop} (ht : P.underlying t = some (.map kt et)) (K : KLaw P kt ok) {zv : Value} (hz : zeroOf P et = some zv) {m : Imm} {w : World} (s : Sat m V w) {b : Nat} {l : List (Value × AVal)} (hb : V b = some (.mp l)) (hk : ∀ p ∈ l, ok p.1)
    {x : Value} (hx : ok x) {r : Bool} {y : AVal} (hr : (r = true ∧ (x, y) ∈ l) ∨ (r = false ∧ (∀ p ∈ l, p.1 ≠ x) ∧ y = .v zv)) (co : Bool) :
    ∃ u, Tr m y u ∧ (Instr.lookup t (.map (some b)) x co).run P w = .ok (if co then .tuple #[u, .bool r] else u) w := by
  obtain ⟨o', ho, es, clock, l₁, rfl, hp, hm, hnd, hbn, hbl⟩ := s.obj b _ hb
  have hget : (getObj b).run P w = .ok (.map es clock) w := MapKept.run_getObj_map ho
  have hc := K.check w es.isEmpty x hx
  rcases mp_find K (w := w) hp hm hk hx with ⟨h1, h2⟩ | ⟨j, e, a, z, b', h1, h2, h3, h4, h5, h6, h7, h8⟩
  · rcases hr with ⟨_, h⟩ | ⟨rfl, _, rfl⟩
    · exact absurd rfl (h2 _ h)
    · refine ⟨zv, by simp [Tr], ?_⟩
      simp [Instr.lookup, run_underlying ht, Sem.run_bind, Result.andThen, hget, hc, h1, run_zeroOf hz]
  · have hzl : (x, z) ∈ l := hp.mem_iff.1 (by rw [h4]; simp)
    rcases hr with ⟨rfl, h⟩ | ⟨_, h, _⟩
    · have := nodup_val hnd h hzl
      subst this
      refine ⟨e.val, h6, ?_⟩
      simp [Instr.lookup, run_underlying ht, Sem.run_bind, Result.andThen, hget, hc, h1]
    · exact absurd rfl (h _ hzl)
theorem s_mapget2 {kt et t : TypeId} {y z : Operand} {ok : Value → Prop} (ht : P.underlying t = some (.map kt et)) (K : KLaw P kt ok) {zv : Value} (hz : zeroOf P et = some zv) {b : Nat} {l : List (Value × AVal)} (hb : V b = some (.mp l)) (hk : ∀ p ∈ l, ok p.1)
    {k : Value} {x : AVal} {r : Bool} (hy : Ev st y (.v (.map (some b)))) (hkz : Ev st z (.v k)) (hkk : ok k) (hr : (r = true ∧ (k, x) ∈ l) ∨ (r = false ∧ (∀ p ∈ l, p.1 ≠ k) ∧ x = .v zv)) :
    OpS ρ P ⟨d, .lookup t y z true, ty, pos, aft, gd⟩ st V (One (.tuple [x, .v (.bool r)]) V) :=
  opS_pure (by intro c h; cases h) fun m a w s q => by
    have h1 : a.eval y = .map (some b) := by simpa [Tr] using hy m a q
    have h2 : a.eval z = k := by simpa [Tr] using hkz m a q
    obtain ⟨u, hu, hrun⟩ := run_get ht K hz s hb hk hkk hr true
    refine ⟨.tuple #[u, .bool r], w, ?_, rfl, by simp only [Tr, TrL]; exact ⟨[u, .bool r], rfl, u, _, rfl, hu, _, _, rfl, rfl, rfl⟩⟩
    simp [execOp, h1, h2, hrun, Sem.run_bind, Result.andThen]
theorem s_mapget1 {kt et t : TypeId} {y z : Operand} {ok : Value → Prop} (ht : P.underlying t = some (.map kt et)) (K : KLaw P kt ok) {zv : Value} (hz : zeroOf P et = some zv) {b : Nat} {l : List (Value × AVal)} (hb : V b = some (.mp l)) (hk : ∀ p ∈ l, ok p.1)
    {k : Value} {x : AVal} {r : Bool} (hy : Ev st y (.v (.map (some b)))) (hkz : Ev st z (.v k)) (hkk : ok k) (hr : (r = true ∧ (k, x) ∈ l) ∨ (r = false ∧ (∀ p ∈ l, p.1 ≠ k) ∧ x = .v zv)) :
    OpS ρ P ⟨d, .lookup t y z false, ty, pos, aft, gd⟩ st V (One x V) :=
  opS_pure (by intro c h; cases h) fun m a w s q => by
    have h1 : a.eval y = .map (some b) := by simpa [Tr] using hy m a q
    have h2 : a.eval z = k := by simpa [Tr] using hkz m a q
    obtain ⟨u, hu, hrun⟩ := run_get ht K hz s hb hk hkk hr false
    refine ⟨u, w, ?_, rfl, hu⟩
    simp at hrun
    simp [execOp, h1, h2, hrun, Sem.run_bind, Result.andThen]
theorem s_maplen {t kt et : TypeId} {y : Operand} {b : Nat} {l : List (Value × AVal)} (ht : P.underlying t = some (.map kt et)) (hb : V b = some (.mp l)) (hy : Ev st y (.v (.map (some b)))) :
    OpS ρ P ⟨d, .call ⟨.builtin .len, #[y], #[t]⟩, ty, pos, aft, gd⟩ st V (One (.v (.int .i64 l.length)) V) :=
  opS_pure (by intro c h; cases h) fun m a w s q => by
    have h1 : a.eval y = .map (some b) := by simpa [Tr] using hy m a q
    obtain ⟨o', ho, es, clock, l₁, rfl, hp, hm, hnd, hbn, hbl⟩ := s.obj b _ hb
    have hget : (getObj b).run P w = .ok (.map es clock) w := MapKept.run_getObj_map ho
    have hlen : es.size = l.length := by have := hm.len; rw [← hp.length_eq, ← this]; simp
    refine ⟨.int .i64 l.length, w, ?_, rfl, by simp [Tr]⟩
    simp [execOp, resolve, invoke, builtin, h1, Builtin.len_, run_underlying ht, Sem.run_bind, Result.andThen, hget, goInt, hlen]
theorem s_mapdel {t t' kt et : TypeId} {y z : Operand} {ok : Value → Prop} (ht : P.underlying t = some (.map kt et)) (K : KLaw P kt ok) {b : Nat} {l l' : List (Value × AVal)} (hb : V b = some (.mp l)) (hk : ∀ p ∈ l, ok p.1)
    {k : Value} (hy : Ev st y (.v (.map (some b)))) (hkz : Ev st z (.v k)) (hkk : ok k)
    (hl : ((∀ p ∈ l, p.1 ≠ k) ∧ l' = l) ∨ ∃ p x r, l = p ++ (k, x) :: r ∧ l' = p ++ r) :
    OpS ρ P ⟨d, .call ⟨.builtin .delete, #[y, z], #[t, t']⟩, ty, pos, aft, gd⟩ st V (One (.tuple []) (V.set b (.mp l'))) :=
  opS_of_run (by intro c h; cases h) fun m a w s q => by
    have e1 : a.eval y = .map (some b) := by simpa [Tr] using hy m a q
    have e2 : a.eval z = k := by simpa [Tr] using hkz m a q
    obtain ⟨o', ho, es, clock, l₁, rfl, hp, hm, hnd, hbn, hbl⟩ := s.obj b _ hb
    have hget : (getObj b).run P w = .ok (.map es clock) w := MapKept.run_getObj_map ho
    have hc := K.check w es.isEmpty k hkk
    rcases mp_find K (w := w) hp hm hk hkk with ⟨h1, h2⟩ | ⟨j, e, a', z', r', h1, h2, h3, h4, h5, h6, h7, h8⟩
    · have hl' : l' = l := by
        rcases hl with ⟨_, h⟩ | ⟨p, x, r, rfl, _⟩
        · exact h
        · exact absurd rfl (h2 (k, x) (by simp))
      subst hl'
      obtain ⟨s', f⟩ := s.mput hb (l' := l') (o := .map es clock) ⟨_, _, l₁, rfl, hp, hm, hnd, hbn, hbl⟩ (by simp [plainO])
      refine ⟨.value (.tuple #[]), _, m, _, _, .tuple #[], ?_, .inl rfl, ⟨rfl, rfl⟩, by simp [Tr, TrL], s', f⟩
      simp [execOp, resolve, invoke, builtin, e1, e2, Builtin.delete_, run_underlying ht, Sem.run_bind, Result.andThen, hget, hc, h1, run_setObj_map' _ ho]
    · have hzl : (k, z') ∈ l := hp.mem_iff.1 (by rw [h4]; simp)
      have hl' : l'.Perm (a' ++ r') := by
        rcases hl with ⟨h, _⟩ | ⟨p, x, r, rfl, rfl⟩
        · exact absurd rfl (h _ hzl)
        · have hzz : x = z' := nodup_val hnd (by simp) hzl
          subst hzz
          rw [h4] at hp
          exact ((List.perm_cons _).1 (List.perm_middle.symm.trans (hp.trans List.perm_middle))).symm
      have hlt : j < es.size := by have := (List.getElem?_eq_some_iff.1 h2).1; simpa using this
      have hjl : j < es.toList.length := by simpa using hlt
      have hers : (es.eraseIdxIfInBounds j).toList = es.toList.take j ++ es.toList.drop (j + 1) := by
        rw [Array.toList_eraseIdxIfInBounds, List.eraseIdx_eq_take_drop_succ]
      have hsub : (es.eraseIdxIfInBounds j).toList.Sublist es.toList := by
        rw [hers]
        have hh : es.toList = es.toList.take j ++ es.toList.drop j := (List.take_append_drop _ _).symm
        conv => rhs; rw [hh]
        exact List.Sublist.append (List.Sublist.refl _) (List.drop_sublist_drop_left _ (Nat.le_succ _))
      obtain ⟨s', f⟩ := s.mput hb (l' := l') (o := .map (es.eraseIdxIfInBounds j) clock) ⟨_, _, a' ++ r', rfl, hl'.symm, by
          rw [hers]; exact h7.append h8, by
          rw [(hl'.map _).nodup_iff]
          have := (hp.map Prod.fst).nodup_iff.2 hnd
          rw [h4] at this
          simp only [List.map_append, List.map_cons] at this ⊢
          exact this.sublist (List.Sublist.append (List.Sublist.refl _) (List.sublist_cons_self _ _)), hbn.sublist (hsub.map _), fun e' he' => hbl e' (hsub.subset he')⟩ (by simp [plainO])
      refine ⟨.value (.tuple #[]), _, m, _, _, .tuple #[], ?_, .inl rfl, ⟨rfl, rfl⟩, by simp [Tr, TrL], s', f⟩
      simp [execOp, resolve, invoke, builtin, e1, e2, Builtin.delete_, run_underlying ht, Sem.run_bind, Result.andThen, hget, hc, h1, run_setObj_map' _ ho]
/-! ### Any order: guards that are known -/
theorem OpS.cast {x y : AVal} (h : x = y) (k : OpS ρ P o st V (One x V)) : OpS ρ P o st V (One y V) := h ▸ k
theorem OpS.viewEq {x : AVal} {V₁ V₂ : View} (h : V₁ = V₂) (k : OpS ρ P o st V (One x V₁)) : OpS ρ P o st V (One x V₂) := h ▸ k
theorem p_k {R Post : AVal → View → Prop} (hg : GdOK ops o st) (h : OpS ρ P o st V R) (hp : ∀ x V', R x V' → Post x V') : OpP ρ P ops o st V Post := by
  intro m a w s t next Q hn
  rw [if_pos (hg.wanted t)]
  exact h m a w s t next Q fun v m' w' x V' hx ht s' f => hn v m' w' x V' (hp x V' hx) ht s' f
theorem p_no {Post : AVal → View → Prop} (hg : GdNo ops o st) (hp : Post (.v undef) V) : OpP ρ P ops o st V Post := by
  intro m a w s t next Q hn
  obtain ⟨j, want, G, hgg, hG, hnn⟩ := hg
  have hw : ¬ Region.wanted o (yielded ops a.tmps) = true := by
    intro e
    refine hnn ((hG m a t).1 ?_)
    simp only [Region.wanted, hgg] at e
    simpa using e
  rw [if_neg hw]
  exact ⟨fun _ _ => trivial, hn undef m w _ _ hp (by simp [Tr]) s (Fr.refl _ _ _)⟩
theorem gnu {j : Nat} {want : Bool} {t : Tmp} (hg : o.guard = some (j, want)) (hj : (ops[j]?).bind (·.dst) = some t) (h : Ev st (.tmp t) (.v undef)) : GdNo ops o st := by
  refine ⟨j, want, False, hg, fun m a q => ⟨fun hy => ?_, fun hf => hf.elim⟩, id⟩
  have hv : a.eval (.tmp t) = undef := by simpa [Tr] using h m a q
  simp only [yielded, hj, Option.bind_some] at hy
  simp only [Act.eval, Array.getD_eq_getD_getElem?] at hv
  cases e : a.tmps[t]? with
  | none => rw [e] at hy; simp at hy
  | some u => rw [e] at hy hv; simp at hv; subst hv; simp [undef] at hy
theorem run_eqbool {t : TypeId} (h : P.underlying t = some .bool) (n : Nat) (a b : Bool) (w : World) : (Op.equalIn (n + 1) t (.bool a) (.bool b)).run P w = .ok (a == b) w := by
  simp [Op.equalIn, run_underlying h, Sem.run_bind, Result.andThen]
theorem run_equal_bool {t : TypeId} (h : P.underlying t = some .bool) (a b : Bool) (w : World) : (Op.equal t (.bool a) (.bool b)).run P w = .ok (a == b) w := run_eqbool h 9999 a b w
theorem s_cmpb {op : BinOp} {t t' : TypeId} {y z : Operand} {a b r : Bool} (h : P.underlying t = some .bool) (hy : Ev st y (.v (.bool a))) (hz : Ev st z (.v (.bool b))) (hr : op = .eql ∧ r = (a == b) ∨ op = .neq ∧ r = (a != b)) :
    OpS ρ P ⟨d, .binOp op t y z t', ty, pos, aft, gd⟩ st V (One (.v (.bool r)) V) :=
  opS_pure (by intro c h; cases h) fun m A w s q => by
    have h1 : A.eval y = .bool a := by simpa [Tr] using hy m A q
    have h2 : A.eval z = .bool b := by simpa [Tr] using hz m A q
    refine ⟨.bool r, w, ?_, rfl, by simp [Tr]⟩
    have hE := run_equal_bool (P := P) h a b w
    rcases hr with ⟨rfl, rfl⟩ | ⟨rfl, rfl⟩ <;> simp [execOp, h1, h2, eqGuard, binOp, hE, Sem.run_bind, Result.andThen, bne]
#print axioms s_cmpb
#print axioms s_mapdel
#print axioms s_mapget1
#print axioms s_maplen
end Go.AV
