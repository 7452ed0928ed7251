/- Regions whose order is open, over the abstract view: the theorem. -/
import Derived.Test.YtapelipehckbcaaAvJ
namespace Go.AV
set_option linter.unusedVariables false

section
variable {ρ : Option Nat} {P : Program} {Q : AQ} {ops : Array Oper} {es : List Bool} {U : View}

theorem reads_put {m : Imm} {a : Act} {t : Tmp} {z : AVal} (h : Reads m a.tmps t z) {d : Option Tmp} (v : Value) (hne : d ≠ some t) : Reads m (a.put d v).tmps t z := by
  obtain ⟨u, hu, ht⟩ := h
  cases d with
  | none => exact ⟨u, hu, ht⟩
  | some d =>
    have : d ≠ t := fun e => hne (by rw [e])
    exact ⟨u, by simp only [Act.put]; rw [Array.getElem?_setIfInBounds_ne this]; exact hu, ht⟩
theorem reads_put_same {m : Imm} {a : Act} {t : Tmp} {z : AVal} {v : Value} (hlt : t < a.tmps.size) (h : Tr m z v) : Reads m (a.put (some t) v).tmps t z :=
  ⟨v, by simp [Act.put, hlt], h⟩
theorem Reads.mono {m m' : Imm} {a : Array Value} {t : Tmp} {z : AVal} (h : Reads m a t z) (hm : m.le m') : Reads m' a t z := let ⟨v, hv, ht⟩ := h; ⟨v, hv, ht.mono hm⟩
theorem put_size (a : Act) (d : Option Tmp) (v : Value) : (a.put d v).tmps.size = a.tmps.size := by cases d <;> simp [Act.put]
theorem put_n (st : ASt) (d : Option Tmp) (x : AVal) : (st.put d x).n = st.n := by cases d <;> rfl
theorem put_lookup_ne {st : ASt} {d : Option Tmp} {x : AVal} {t : Tmp} (hne : d ≠ some t) : (st.put d x).tmps.lookup t = st.tmps.lookup t := by
  cases d with
  | none => rfl
  | some d =>
    have : (t == d) = false := by simp; exact fun e => hne (by rw [e])
    simp [ASt.put, List.lookup_cons, this]
theorem put_lookup_same {st : ASt} {x : AVal} {t : Tmp} : (st.put (some t) x).tmps.lookup t = some x := by simp [ASt.put, List.lookup_cons]

theorem drop_zip {q : Nat} {o : Oper} (hlen : es.length = ops.size) (ho : ops[q]? = some o) : ∃ b, es[q]? = some b ∧ (ops.toList.zip es).drop q = (o, b) :: (ops.toList.zip es).drop (q + 1) := by
  have hlt := (Array.getElem?_eq_some_iff.1 ho).1
  have hlt' : q < es.length := by omega
  have hz : q < (ops.toList.zip es).length := by simp; omega
  refine ⟨es[q], List.getElem?_eq_getElem hlt', ?_⟩
  rw [List.drop_eq_getElem_cons hz]
  congr 1
  have := (Array.getElem?_eq_some_iff.1 ho).2
  simp [this]

theorem release (ok : DrawOK ops es (0 : Nat) ∨ ∃ n, DrawOK ops es n) (hlen : es.length = ops.size) {listed : Array Bool} {V : View} {m : Imm} {a : Array Value} : ∀ (k q : Nat) (Fl : List Float) (st : ASt), ops.size - q = k → q ≤ ops.size →
    Inv ρ P ops es U Q listed q Fl st V m a →
    ∃ q' Fl' st', q' ≤ ops.size ∧ Inv ρ P ops es U Q listed q' Fl' st' V m a ∧ Fl'.length + (ops.size - q') = Fl.length + (ops.size - q) ∧ st'.n = st.n ∧ (q' = ops.size ∨ es[q']? = some true) := by
  obtain ⟨n, ok⟩ : ∃ n, DrawOK ops es n := by rcases ok with h | h; exact ⟨0, h⟩; exact h
  intro k
  induction k with
  | zero => intro q Fl st hk hq I; exact ⟨q, Fl, st, hq, I, rfl, rfl, .inl (by omega)⟩
  | succ k ih =>
    intro q Fl st hk hq I
    have hlt : q < ops.size := by omega
    obtain ⟨b, hb, hd⟩ := drop_zip hlen (Array.getElem?_eq_getElem hlt)
    cases b with
    | true => exact ⟨q, Fl, st, hq, I, rfl, rfl, .inr hb⟩
    | false =>
      have hdraw := I.draw
      rw [hd] at hdraw
      simp only [DrawIn] at hdraw
      obtain ⟨x, hfact, hrest⟩ := hdraw
      have ho : ops[q]? = some ops[q] := Array.getElem?_eq_getElem hlt
      have I' : Inv ρ P ops es U Q listed (q + 1) (⟨q, st, x⟩ :: Fl) (st.put ops[q].dst x) V m a := by
        refine ⟨fun j hj => ?_, fun f hf => ?_, ?_, fun f hf => ?_, by rw [put_n]; exact I.size, fun f hf => ?_, fun f hf o hof t z hz ht => ?_, fun t z hz => ?_, fun f hf o t hof hdt => ?_, hrest, I.closed⟩
        · rw [I.un j hj]
          simp only [List.mem_cons, exists_eq_or_imp]
          constructor
          · rintro (h | ⟨f, hf, he⟩)
            · rcases Nat.lt_or_ge q j with h' | h'
              · exact .inl h'
              · exact .inr (.inl (by show q = j; omega))
            · exact .inr (.inr ⟨f, hf, he⟩)
          · rintro (h | h | ⟨f, hf, he⟩)
            · exact .inl (by omega)
            · exact .inl (by have : q = j := h; omega)
            · exact .inr ⟨f, hf, he⟩
        · rcases List.mem_cons.1 hf with rfl | hf
          · exact Nat.lt_succ_self _
          · exact Nat.lt_succ_of_lt (I.lt f hf)
        · simp only [List.map_cons, List.nodup_cons]
          refine ⟨fun hm => ?_, I.nd⟩
          obtain ⟨f, hf, he⟩ := List.mem_map.1 hm
          have := I.lt f hf; omega
        · rcases List.mem_cons.1 hf with rfl | hf
          · exact ⟨_, ho, hfact⟩
          · exact I.fact f hf
        · rw [put_n]
          rcases List.mem_cons.1 hf with rfl | hf
          · rfl
          · exact I.sizes f hf
        · have up : ∀ j, pend ops Fl j t → pend ops (⟨q, st, x⟩ :: Fl) j t := fun j ⟨g, hg, h⟩ => ⟨g, List.mem_cons_of_mem _ hg, h⟩
          rcases List.mem_cons.1 hf with rfl | hf
          · exact (I.rest t z hz).imp (up _) id
          · exact (I.env f hf o hof t z hz ht).imp (up _) id
        · by_cases hd' : ops[q].dst = some t
          · exact .inl ⟨⟨q, st, x⟩, List.mem_cons_self, Nat.lt_succ_self _, ops[q], ho, hd'⟩
          · rw [put_lookup_ne hd'] at hz
            refine (I.rest t z hz).imp ?_ id
            rintro ⟨g, hg, h1, h2⟩
            exact ⟨g, List.mem_cons_of_mem _ hg, Nat.lt_succ_of_lt h1, h2⟩
        · rcases List.mem_cons.1 hf with rfl | hf
          · have hoo : o = ops[q] := by have : ops[q]? = some o := hof; rw [ho] at this; exact (Option.some.inj this).symm
            subst hoo
            refine ⟨fun g hg hlt' z hz => ?_, fun z hz => ?_⟩
            · rcases List.mem_cons.1 hg with rfl | hg
              · exact absurd hlt' (Nat.lt_irrefl _)
              · have := I.lt g hg
                have : q < g.i := hlt'
                omega
            · rw [hdt, put_lookup_same] at hz
              exact (Option.some.inj hz).symm
          · obtain ⟨h1, h2⟩ := I.val f hf o t hof hdt
            have hne : ops[q].dst ≠ some t := fun e => by
              have := ok.apart f.i q o ops[q] t hof ho hdt e
              have := I.lt f hf
              omega
            refine ⟨fun g hg hlt' z hz => ?_, fun z hz => ?_⟩
            · rcases List.mem_cons.1 hg with rfl | hg
              · exact h2 z hz
              · exact h1 g hg hlt' z hz
            · rw [put_lookup_ne hne] at hz; exact h2 z hz
      obtain ⟨q', Fl', st', h1, h2, h3, h4, h5⟩ := ih (q + 1) _ _ (by omega) (by omega) I'
      exact ⟨q', Fl', st', h1, h2, by rw [h3]; simp; omega, by rw [h4, put_n], h5⟩

theorem getD_agree {listed : Array Bool} {j : Nat} (h : j < listed.size) : listed.getD j true = listed.getD j false := by simp [h]

theorem only_ok {m : Imm} {a : Act} {st : ASt} {o : Oper} (hs : a.tmps.size = st.n) (h : ∀ t z, st.tmps.lookup t = some z → t ∈ o.looksAt ops → Reads m a.tmps t z) : TmpsOK m (st.only ops o) a.tmps := by
  refine ⟨hs, fun t z hz => ?_⟩
  obtain ⟨h1, h2⟩ := only_lookup.1 hz
  exact h t z h2 (by simpa using h1)

theorem draw_main {n : Nat} (ok : DrawOK ops es n) (hlen : es.length = ops.size) {B : Nat} {m₀ : Imm} {V₀ : View} {w₀ : World} : ∀ (fuel : Nat) (U : View) (listed : Array Bool) (q : Nat) (Fl : List Float) (st : ASt) (V : View) (m : Imm) (a : Act) (w : World),
    q ≤ ops.size → listed.size = ops.size → st.n = n → Inv ρ P ops es U Q listed q Fl st V m a.tmps → Fl.length + (ops.size - q) ≤ fuel → Sat m V w → U.le V → DefOK B V a.defers w → Fr m₀ V₀ w₀ m V w →
    wpAnyIn (FR ρ) 0 P .any ops (conc B m₀ V₀ w₀ Q) fuel listed a w := by
  intro fuel
  induction fuel with
  | zero =>
    intro U listed q Fl st V m a w hq hls hn I hf s hU df f
    have hFl : Fl = [] := List.length_eq_zero_iff.1 (by omega)
    have hqN : q = ops.size := by omega
    subst hFl; subst hqN
    refine ⟨?_, m, st, V, ?_, s, ⟨I.size, fun t z hz => ?_⟩, df, f⟩
    · apply List.eq_nil_iff_forall_not_mem.2
      intro i hi
      obtain ⟨h0, o, ho, _⟩ := mem_ready.1 hi
      have hlt := (Array.getElem?_eq_some_iff.1 ho).1
      rw [getD_agree (by omega)] at h0
      rcases (I.un i hlt).1 h0 with h | ⟨g, hg, _⟩
      · omega
      · cases hg
    · have := I.draw
      rw [List.drop_of_length_le (by simp; omega)] at this
      exact this
    · rcases I.rest t z hz with ⟨g, hg, _⟩ | h
      · cases hg
      · exact h
  | succ fuel ih =>
    intro U listed q₀ Fl₀ st₀ V m a w hq₀ hls hn₀ I₀ hf₀ s hU df f
    obtain ⟨q, Fl, st, hq, I, hcount, hstn, hend⟩ := release (.inr ⟨n, ok⟩) hlen _ q₀ Fl₀ st₀ rfl hq₀ I₀
    have hn : st.n = n := hstn.trans hn₀
    have hf : Fl.length + (ops.size - q) ≤ fuel + 1 := by omega
    have unl : ∀ {j : Nat} {o : Oper}, j ∈ Region.ready .any ops listed → ops[j]? = some o → listed.getD j false = false := by
      intro j o hj ho
      have hlt := (Array.getElem?_eq_some_iff.1 ho).1
      have := (mem_ready.1 hj).1
      rwa [getD_agree (by omega)] at this
    have done : ∀ {i j : Nat}, i < ops.size → waits ops i j = true → j ∈ Region.ready .any ops listed → ¬ (q ≤ i ∨ ∃ g ∈ Fl, g.i = i) := by
      intro i j hi hw hj h
      have h1 := waits_listed hw hj
      rw [(I.un i hi).2 h] at h1
      cases h1
    refine ⟨fun hnil => ?_, fun i hi => ?_⟩
    · -- nothing is ready: all is done
      have hall : ∀ j, j < ops.size → listed.getD j false = true := by
        intro j
        induction j using Nat.strongRecOn with
        | _ j ihj =>
          intro hj
          cases hl : listed.getD j false with
          | true => rfl
          | false =>
            exfalso
            have : j ∈ Region.ready .any ops listed := mem_ready.2 ⟨by rw [getD_agree (by omega)]; exact hl, ops[j], Array.getElem?_eq_getElem hj, fun e he hb => by
              have := ok.deps j _ (Array.getElem?_eq_getElem hj) e he hb
              exact ihj e.on this (by omega)⟩
            rw [hnil] at this; cases this
      have hqN : q = ops.size := by
        rcases Nat.lt_or_ge q ops.size with h | h
        · have h1 := hall q h
          rw [(I.un q h).2 (.inl (Nat.le_refl _))] at h1; cases h1
        · omega
      have hFl : Fl = [] := by
        cases hFF : Fl with
        | nil => rfl
        | cons g r =>
          exfalso
          obtain ⟨o, ho, _⟩ := I.fact g (by rw [hFF]; simp)
          have hlt := (Array.getElem?_eq_some_iff.1 ho).1
          have h1 := hall g.i hlt
          rw [(I.un g.i hlt).2 (.inr ⟨g, by rw [hFF]; simp, rfl⟩)] at h1; cases h1
      subst hFl; subst hqN
      refine ⟨m, st, V, ?_, s, ⟨I.size, fun t z hz => ?_⟩, df, f⟩
      · have := I.draw
        rw [List.drop_of_length_le (by simp; omega)] at this
        exact this
      · rcases I.rest t z hz with ⟨g, hg, _⟩ | h
        · cases hg
        · exact h
    · obtain ⟨_, o, ho, _⟩ := mem_ready.1 hi
      have hlt := (Array.getElem?_eq_some_iff.1 ho).1
      have hun := (I.un i hlt).1 (unl hi ho)
      have hls' : (listed.setIfInBounds i true).size = ops.size := by simp [hls]
      have hset : ∀ j, j < ops.size → ((listed.setIfInBounds i true).getD j false = false ↔ (listed.getD j false = false ∧ j ≠ i)) := by
        intro j hj
        by_cases he : i = j
        · subst he; simp [hls, hj]
        · rw [getD_set_ne false he]
          constructor
          · intro h; exact ⟨h, fun e => he e.symm⟩
          · intro h; exact h.1
      have hcl : ∀ k j, (listed.setIfInBounds i true).getD j false = true → waits ops k j = true → (listed.setIfInBounds i true).getD k false = true := by
        intro k j hj hw
        by_cases hki : i = k
        · subst hki; simp [hls, hlt]
        · rw [getD_set_ne false hki]
          by_cases hji : i = j
          · subst hji; exact waits_listed hw hi
          · rw [getD_set_ne false hji] at hj; exact I.closed k j hj hw
      unfold wpOpIn
      rw [ho]
      by_cases hfl : ∃ g ∈ Fl, g.i = i
      · -- one that floats
        obtain ⟨g, hg, rfl⟩ := hfl
        obtain ⟨o', ho', hfact⟩ := I.fact g hg
        rw [ho] at ho'
        obtain rfl : o' = o := (Option.some.inj ho').symm
        have hT : TmpsOK m (g.env.only ops o') a.tmps := only_ok (by rw [I.size, ← I.sizes g hg]) fun t z hz ht => by
          rcases I.env g hg o' ho t z hz ht with ⟨g', hg', hlt', oi, hoi, hdi⟩ | h
          · exact absurd (.inr ⟨g', hg', rfl⟩) (done (Array.getElem?_eq_some_iff.1 hoi).1 (ok.before _ _ _ _ t hoi ho hdi ht hlt') hi)
          · exact h
        refine hfact V hU m a w s hT _ _ fun v m' w' hx s' f' => ?_
        have hd : ∀ t, o'.dst = some t → t < a.tmps.size := by
          intro t ht
          have := ok.dst g.i o' ho
          rw [ht] at this
          simp only [dstOK, decide_eq_true_eq] at this
          rw [I.size, hn]; exact this
        have hmem : ∀ h : Float, h ∈ Fl.filter (fun h => !Nat.beq h.i g.i) ↔ h ∈ Fl ∧ h.i ≠ g.i := by
          intro h
          simp only [List.mem_filter, Bool.not_eq_true', Bool.eq_false_iff, ne_eq, Nat.beq_eq]
        have hpend : ∀ {j t : Nat}, pend ops Fl j t → pend ops (Fl.filter fun h => !Nat.beq h.i g.i) j t ∨ (g.i < j ∧ o'.dst = some t) := by
          rintro j t ⟨h, hh, h1, oi, hoi, hdi⟩
          by_cases he : h.i = g.i
          · right
            rw [he, ho] at hoi
            obtain rfl := Option.some.inj hoi
            exact ⟨he ▸ h1, hdi⟩
          · left
            exact ⟨h, (hmem h).2 ⟨hh, he⟩, h1, oi, hoi, hdi⟩
        -- what a reader sees behind it
        have step : ∀ {j t : Nat} {z : AVal}, (g.i < j → o'.dst = some t → z = g.x) → (o'.dst = some t → g.i < j) → (pend ops Fl j t ∨ Reads m a.tmps t z) →
            (pend ops (Fl.filter fun h => !Nat.beq h.i g.i) j t ∨ Reads m' (a.put o'.dst v).tmps t z) := by
          intro j t z hz hj h
          by_cases hdt : o'.dst = some t
          · have hgj := hj hdt
            have := hz hgj hdt
            subst this
            right
            rw [hdt]
            exact reads_put_same (hd t hdt) hx
          · rcases h with h | h
            · rcases hpend h with h | ⟨_, h⟩
              · exact .inl h
              · exact absurd h hdt
            · exact .inr (reads_put (h.mono f'.imm) v hdt)
        refine ih U _ q (Fl.filter fun h => !Nat.beq h.i g.i) st V m' (a.put o'.dst v) w' hq hls' hn ?_ ?_ s' hU (by cases o'.dst <;> exact df.fr f') (f.trans f')
        · refine ⟨fun j hj => ?_, fun h hh => I.lt h ((hmem h).1 hh).1, ?_, fun h hh => I.fact h ((hmem h).1 hh).1, by rw [put_size]; exact I.size, fun h hh => I.sizes h ((hmem h).1 hh).1, fun h hh oh hoh t z hz ht => ?_, fun t z hz => ?_, fun h hh oh t hoh hdt => ?_, I.draw, hcl⟩
          · rw [hset j hj, I.un j hj]
            constructor
            · rintro ⟨h | ⟨h, hh, rfl⟩, hne⟩
              · exact .inl h
              · exact .inr ⟨h, (hmem h).2 ⟨hh, hne⟩, rfl⟩
            · rintro (h | ⟨h, hh, rfl⟩)
              · exact ⟨.inl h, fun e => by have := I.lt g hg; omega⟩
              · exact ⟨.inr ⟨h, ((hmem h).1 hh).1, rfl⟩, ((hmem h).1 hh).2⟩
          · exact (I.nd.sublist ((List.filter_sublist).map _))
          · have hh' := (hmem h).1 hh
            refine step (fun hlt' hdt => (I.val g hg o' t ho hdt).1 h hh'.1 hlt' z hz) (fun hdt => ?_) (I.env h hh'.1 oh hoh t z hz ht)
            rcases Nat.lt_or_ge g.i h.i with h' | h'
            · exact h'
            · have := ok.behind g.i h.i o' oh t ho hoh hdt ht (by omega)
              exact absurd (.inr ⟨h, hh'.1, rfl⟩) (done (Array.getElem?_eq_some_iff.1 hoh).1 this.2 hi)
          · exact step (fun _ hdt => (I.val g hg o' t ho hdt).2 z hz) (fun _ => I.lt g hg) (I.rest t z hz)
          · obtain ⟨h1, h2⟩ := I.val h ((hmem h).1 hh).1 oh t hoh hdt
            exact ⟨fun k hk hlt' z hz => h1 k ((hmem k).1 hk).1 hlt' z hz, h2⟩
        · have : (Fl.filter fun h => !Nat.beq h.i g.i).length < Fl.length := by
            rcases Nat.lt_or_ge (Fl.filter fun h => !Nat.beq h.i g.i).length Fl.length with h | h
            · exact h
            · have hle := List.length_filter_le (fun h : Float => !Nat.beq h.i g.i) Fl
              have heq : (Fl.filter fun h => !Nat.beq h.i g.i) = Fl := List.filter_eq_self.2 (List.length_filter_eq_length_iff.1 (by omega))
              have : g ∈ Fl.filter fun h => !Nat.beq h.i g.i := by rw [heq]; exact hg
              exact absurd rfl ((hmem g).1 this).2
          omega
      · -- the one behind all that are done
        have hqi : q ≤ i := by rcases hun with h | h; exact h; exact absurd h hfl
        have hE : es[q]? = some true := by rcases hend with h | h; omega; exact h
        have hiq : i = q := by
          rcases Nat.lt_or_ge q i with h | h
          · have h1 := ok.barred I.closed (by omega) hE i hlt h fun k hk => waits_listed hk hi
            rw [(I.un q (by omega)).2 (.inl (Nat.le_refl q))] at h1; cases h1
          · omega
        subst hiq
        obtain ⟨b, hb, hdrop⟩ := drop_zip hlen ho
        rw [hE] at hb
        obtain rfl := (Option.some.inj hb).symm
        have hdraw := I.draw
        rw [hdrop] at hdraw
        simp only [DrawIn] at hdraw
        obtain ⟨hgn, hop⟩ := hdraw
        have hT : TmpsOK m (st.only ops o) a.tmps := only_ok I.size fun t z hz ht => by
          rcases I.rest t z hz with ⟨g', hg', hlt', oi, hoi, hdi⟩ | h
          · exact absurd (.inr ⟨g', hg', rfl⟩) (done (Array.getElem?_eq_some_iff.1 hoi).1 (ok.before _ _ _ _ t hoi ho hdi ht hlt') hi)
          · exact h
        have hw : Region.wanted o (yielded ops a.tmps) = true := hgn.wanted hT
        simp only [if_pos hw]
        refine hop m a w s hT _ _ fun v m' w' x V' ⟨U', hUU, hU', hrest⟩ hx s' f' => ?_
        have hd : ∀ t, o.dst = some t → t < a.tmps.size := by
          intro t ht
          have := ok.dst i o ho
          rw [ht] at this
          simp only [dstOK, decide_eq_true_eq] at this
          rw [I.size, hn]; exact this
        refine ih U' _ (i + 1) Fl (st.put o.dst x) V' m' (a.put o.dst v) w' (by omega) hls' (by rw [put_n]; exact hn) ?_ (by omega) s' hU' (by cases o.dst <;> exact df.fr f') (f.trans f')
        refine ⟨fun j hj => ?_, fun h hh => Nat.lt_succ_of_lt (I.lt h hh), I.nd, fun h hh => ?_, by rw [put_size, put_n]; exact I.size, fun h hh => by rw [put_n]; exact I.sizes h hh, fun h hh oh hoh t z hz ht => ?_, fun t z hz => ?_, fun h hh oh t hoh hdt => ?_, hrest, hcl⟩
        · rw [hset j hj, I.un j hj]
          constructor
          · rintro ⟨h | h, hne⟩
            · exact .inl (by omega)
            · exact .inr h
          · rintro (h | ⟨h, hh, rfl⟩)
            · exact ⟨.inl (by omega), by omega⟩
            · exact ⟨.inr ⟨h, hh, rfl⟩, fun e => hfl ⟨h, hh, e⟩⟩
        · rcases hUU with rfl | hfull
          · exact I.fact h hh
          · have hlen' : ops.size - ((ops.toList.zip es).drop (i + 1)).length - 1 = i := by simp [hlen]; omega
            rw [hlen'] at hfull
            have hlt' : h.i < ops.size := by have := I.lt h hh; omega
            have hun' := (I.un h.i hlt').2 (.inr ⟨h, hh, rfl⟩)
            have hw' := List.all_eq_true.1 hfull h.i (List.mem_range.2 (I.lt h hh))
            simp only [Bool.or_eq_true, List.any_eq_true, Bool.and_eq_true] at hw'
            rcases hw' with hw' | ⟨k, _, hk1, hk2⟩
            · rw [waits_listed hw' hi] at hun'; cases hun'
            · rw [I.closed _ _ (waits_listed hk2 hi) hk1] at hun'; cases hun'
        · have hne : o.dst ≠ some t := fun hdt => by
            have := ok.behind i h.i o oh t ho hoh hdt ht (by have := I.lt h hh; omega)
            exact absurd (.inr ⟨h, hh, rfl⟩) (done (Array.getElem?_eq_some_iff.1 hoh).1 this.2 hi)
          exact (I.env h hh oh hoh t z hz ht).imp id fun hr => reads_put (hr.mono f'.imm) v hne
        · by_cases hdt : o.dst = some t
          · rw [hdt, put_lookup_same] at hz
            obtain rfl := Option.some.inj hz
            right
            rw [hdt]
            exact reads_put_same (hd t hdt) hx
          · rw [put_lookup_ne hdt] at hz
            refine (I.rest t z hz).imp ?_ fun hr => reads_put (hr.mono f'.imm) v hdt
            rintro ⟨g, hg, h1, h2⟩
            exact ⟨g, hg, Nat.lt_succ_of_lt h1, h2⟩
        · obtain ⟨h1, h2⟩ := I.val h hh oh t hoh hdt
          have hne : o.dst ≠ some t := fun e => by
            have := ok.apart h.i i oh o t hoh ho hdt e
            have := I.lt h hh
            omega
          exact ⟨h1, fun z hz => h2 z (by rw [put_lookup_ne hne] at hz; exact hz)⟩

/-! ### Another order of the text -/
def relab (s : List Nat) (o : Oper) : Oper := ⟨o.dst, o.op, o.type, o.pos, o.after.map fun e => ⟨(s[e.on]?).getD 0, e.ground⟩, o.guard.map fun g => ((s[g.1]?).getD 0, g.2)⟩
def permB (p s : List Nat) (ops ops' : Array Oper) : Bool :=
  Nat.beq ops'.size ops.size && Nat.beq s.length ops.size && Nat.beq p.length ops.size &&
  ((List.range ops.size).all fun i => Nat.blt ((p[i]?).getD 0) ops.size && Nat.blt ((s[i]?).getD 0) ops.size && Nat.beq ((p[(s[i]?).getD 0]?).getD 0) i && Nat.beq ((s[(p[i]?).getD 0]?).getD 0) i) &&
  ops.toList.all fun o => (o.after.toList.all fun e => Nat.blt e.on ops.size) && (match o.guard with | some (g, _) => Nat.blt g ops.size | none => true)
structure PermOK (p s : List Nat) (ops ops' : Array Oper) : Prop where
  size : ops'.size = ops.size
  slt : ∀ (i : Nat), i < ops.size → (s[i]?).getD 0 < ops.size
  plt : ∀ (i : Nat), i < ops.size → (p[i]?).getD 0 < ops.size
  ps : ∀ (i : Nat), i < ops.size → (p[(s[i]?).getD 0]?).getD 0 = i
  sp : ∀ (i : Nat), i < ops.size → (s[(p[i]?).getD 0]?).getD 0 = i
  at' : ∀ (i : Nat) (o : Oper), ops[i]? = some o → ops'[(s[i]?).getD 0]? = some (relab s o)
  on : ∀ (i : Nat) (o : Oper), ops[i]? = some o → ∀ e ∈ o.after, e.on < ops.size
  gd : ∀ (i : Nat) (o : Oper) (g : Nat) (b : Bool), ops[i]? = some o → o.guard = some (g, b) → g < ops.size

theorem permB_ok {p s : List Nat} {ops ops' : Array Oper} (h : permB p s ops ops' = true) (hp : ops'.toList = p.map fun i => relab s ((ops[i]?).getD default)) : PermOK p s ops ops' := by
  unfold permB at h
  simp only [Bool.and_eq_true, Nat.beq_eq, List.all_eq_true, List.mem_range, Nat.blt_eq] at h
  obtain ⟨⟨⟨⟨h1, h2⟩, h3⟩, h4⟩, h5⟩ := h
  have mem : ∀ i o, ops[i]? = some o → o ∈ ops.toList := fun i o ho => by simpa using Array.mem_of_getElem? ho
  refine ⟨h1, fun i hi => (h4 i hi).1.1.2, fun i hi => (h4 i hi).1.1.1, fun i hi => (h4 i hi).1.2, fun i hi => (h4 i hi).2, fun i o ho => ?_, fun i o ho e he => ?_, fun i o g b ho hg => ?_⟩
  · have hi := (Array.getElem?_eq_some_iff.1 ho).1
    have hs := (h4 i hi).1.1.2
    have hps := (h4 i hi).1.2
    have : ops'[(s[i]?).getD 0]? = ops'.toList[(s[i]?).getD 0]? := by simp
    rw [this, hp, List.getElem?_map]
    have hlt : (s[i]?).getD 0 < p.length := by omega
    rw [List.getElem?_eq_getElem hlt] at hps ⊢
    simp only [Option.getD_some] at hps
    simp only [Option.map_some]
    rw [hps, ho]; rfl
  · exact (h5 o (mem i o ho)).1 e (by simpa using he)
  · have := (h5 o (mem i o ho)).2
    rw [hg] at this
    simpa using this

theorem PermOK.listed_set {p s : List Nat} {ops ops' : Array Oper} (ok : PermOK p s ops ops') {l l' : Array Bool} (hl : l.size = ops.size) (hl' : l'.size = ops.size) (h : ∀ (i : Nat), i < ops.size → l'.getD ((s[i]?).getD 0) false = l.getD i false) {i : Nat} (hi : i < ops.size) :
    ∀ (j : Nat), j < ops.size → (l'.setIfInBounds ((s[i]?).getD 0) true).getD ((s[j]?).getD 0) false = (l.setIfInBounds i true).getD j false := by
  intro j hj
  by_cases he : i = j
  · subst he
    have := ok.slt i hi
    simp [hl, hl', hi, this]
  · rw [getD_set_ne false he, getD_set_ne false ?_]
    · exact h j hj
    · intro e
      have h1 := ok.ps i hi
      have h2 := ok.ps j hj
      rw [e] at h1
      exact he (h1.symm.trans h2)

theorem PermOK.ready {p s : List Nat} {ops ops' : Array Oper} (ok : PermOK p s ops ops') {l l' : Array Bool} (hl : l.size = ops.size) (hl' : l'.size = ops.size) (h : ∀ (i : Nat), i < ops.size → l'.getD ((s[i]?).getD 0) false = l.getD i false) {i : Nat} :
    i ∈ Region.ready .any ops l → (s[i]?).getD 0 ∈ Region.ready .any ops' l' := by
  intro hi
  obtain ⟨h0, o, ho, ha⟩ := mem_ready.1 hi
  have hlt := (Array.getElem?_eq_some_iff.1 ho).1
  refine mem_ready.2 ⟨?_, _, ok.at' i o ho, fun e he hb => ?_⟩
  · have := ok.slt i hlt
    rw [getD_agree (by omega), h i hlt]
    rwa [getD_agree (by omega)] at h0
  · simp only [relab, Array.mem_map] at he
    obtain ⟨e0, he0, rfl⟩ := he
    exact (h _ (ok.on i o ho e0 he0)).trans (ha e0 he0 hb)
theorem PermOK.ready' {p s : List Nat} {ops ops' : Array Oper} (ok : PermOK p s ops ops') {l l' : Array Bool} (hl : l.size = ops.size) (hl' : l'.size = ops.size) (h : ∀ (i : Nat), i < ops.size → l'.getD ((s[i]?).getD 0) false = l.getD i false) {k : Nat} :
    k ∈ Region.ready .any ops' l' → (p[k]?).getD 0 ∈ Region.ready .any ops l := by
  intro hk
  obtain ⟨h0, o', ho', ha⟩ := mem_ready.1 hk
  have hkl := (Array.getElem?_eq_some_iff.1 ho').1
  rw [ok.size] at hkl
  have hp := ok.plt k hkl
  have hs := ok.sp k hkl
  obtain ⟨o, ho⟩ : ∃ o, ops[(p[k]?).getD 0]? = some o := ⟨_, Array.getElem?_eq_getElem hp⟩
  have := ok.at' _ o ho
  rw [hs, ho'] at this
  obtain rfl := (Option.some.inj this)
  refine mem_ready.2 ⟨?_, o, ho, fun e he hb => ?_⟩
  · have h1 := h _ hp
    rw [hs] at h1
    rw [getD_agree (by omega), ← h1]
    rwa [getD_agree (by omega)] at h0
  · have := ha ⟨(s[e.on]?).getD 0, e.ground⟩ (by simp only [relab, Array.mem_map]; exact ⟨e, he, rfl⟩) hb
    exact (h _ (ok.on _ o ho e he)).symm.trans this

theorem perm_any {p s : List Nat} {ops ops' : Array Oper} (ok : PermOK p s ops ops') {F : Fence} {N : Nat} {Q : Exit → Act → World → Prop} : ∀ (fuel : Nat) (l l' : Array Bool) (a : Act) (w : World), l.size = ops.size → l'.size = ops.size →
    (∀ (i : Nat), i < ops.size → l'.getD ((s[i]?).getD 0) false = l.getD i false) → wpAnyIn F N P .any ops' Q fuel l' a w → wpAnyIn F N P .any ops Q fuel l a w := by
  intro fuel
  induction fuel with
  | zero =>
    intro l l' a w hl hl' h hw
    refine ⟨List.eq_nil_iff_forall_not_mem.2 fun i hi => ?_, hw.2⟩
    have := ok.ready hl hl' h hi
    rw [hw.1] at this; cases this
  | succ fuel ih =>
    intro l l' a w hl hl' h hw
    refine ⟨fun hn => hw.1 (List.eq_nil_iff_forall_not_mem.2 fun k hk => ?_), fun i hi => ?_⟩
    · have := ok.ready' hl hl' h hk
      rw [hn] at this; cases this
    · obtain ⟨_, o, ho, _⟩ := mem_ready.1 hi
      have hlt := (Array.getElem?_eq_some_iff.1 ho).1
      have h2 := hw.2 _ (ok.ready hl hl' h hi)
      have h3 := wpOpIn_mono (fun a w hk => ih (l.setIfInBounds i true) _ a w (by simp [hl]) (by simp [hl']) (ok.listed_set hl hl' h hlt) hk) h2
      unfold wpOpIn at h3 ⊢
      rw [ok.at' i o ho] at h3
      rw [ho]
      have hwant : Region.wanted (relab s o) (yielded ops' a.tmps) = Region.wanted o (yielded ops a.tmps) := by
        cases hg : o.guard with
        | none => simp [Region.wanted, relab, hg]
        | some g =>
          obtain ⟨g, b⟩ := g
          have hgl := ok.gd i o g b ho hg
          obtain ⟨og, hog⟩ : ∃ og, ops[g]? = some og := ⟨_, Array.getElem?_eq_getElem hgl⟩
          simp only [Region.wanted, relab, hg, Option.map_some, yielded, hog, ok.at' g og hog]
          rfl
      simp only [hwant] at h3
      exact h3

/-- **A region whose order is open.** -/
theorem a_draw {id : Nat} {st : ASt} {V : View} (es : List Bool) (U : View) (hm : P.follows .mixedOrders = true) (hl : es.length = ops.size) (hB : drawB ops es st.n = true) (hU : U.le V)
    (h : DrawIn ρ P ops U Q (ops.toList.zip es) st V) : ATrip ρ P (.region id ops true) Q st V := by
  intro B m a w s t d
  refine wpIn_region_any hm ?_
  have s1 : Sat m V { w with drawn := w.drawn + 1 } := s.heap rfl
  have f1 : Fr m V w m V { w with drawn := w.drawn + 1 } := Fr.heap m V rfl ⟨⟨rfl, rfl⟩, fun _ => rfl⟩
  refine draw_main (drawB_ok hB) hl ops.size U _ 0 [] st V m a _ (Nat.zero_le _) (by simp) rfl ⟨fun j hj => ?_, by simp, by simp, by simp, t.1, by simp, by simp, fun u z hz => .inr (t.2 u z hz), by simp, by simpa using h, fun i j hj => by (exfalso; rw [Array.getD_eq_getD_getElem?] at hj; by_cases hlt : j < ops.size <;> simp [hlt] at hj)⟩ (by simp) s1 hU (d.fr f1) f1
  simp [hj]

/-- **The same, in another order.** -/
theorem a_drawp {id : Nat} {st : ASt} {V : View} (p s : List Nat) (ops' : Array Oper) (es : List Bool) (U : View) (hP : permB p s ops ops' = true) (hp : ops'.toList = p.map fun i => relab s ((ops[i]?).getD default))
    (hm : P.follows .mixedOrders = true) (hl : es.length = ops'.size) (hB : drawB ops' es st.n = true) (hU : U.le V)
    (h : DrawIn ρ P ops' U Q (ops'.toList.zip es) st V) : ATrip ρ P (.region id ops true) Q st V := by
  intro B m a w s' t d
  refine wpIn_region_any hm ?_
  have ok := permB_ok hP hp
  have s1 : Sat m V { w with drawn := w.drawn + 1 } := s'.heap rfl
  have f1 : Fr m V w m V { w with drawn := w.drawn + 1 } := Fr.heap m V rfl ⟨⟨rfl, rfl⟩, fun _ => rfl⟩
  refine perm_any ok _ _ (Array.replicate ops'.size false) _ _ (by simp) (by simp [ok.size]) (fun i hi => ?_) ?_
  · have := ok.slt i hi
    simp [hi, ok.size, this]
  rw [← ok.size]
  refine draw_main (drawB_ok hB) hl ops'.size U _ 0 [] st V m a _ (Nat.zero_le _) (by simp) rfl ⟨fun j hj => ?_, by simp, by simp, by simp, t.1, by simp, by simp, fun u z hz => .inr (t.2 u z hz), by simp, by simpa using h, fun i j hj => by (exfalso; rw [Array.getD_eq_getD_getElem?] at hj; by_cases hlt : j < ops'.size <;> simp [hlt] at hj)⟩ (by simp) s1 hU (d.fr f1) f1
  simp [hj]

def permOps (p s : List Nat) (ops : Array Oper) : Array Oper := ⟨p.map fun i => relab s ((ops[i]?).getD default)⟩
/-- **The same, the other order reckoned.** -/
theorem a_drawq {id : Nat} {st : ASt} {V : View} (p s : List Nat) (es : List Bool) (U : View) (hP : permB p s ops (permOps p s ops) = true)
    (hm : P.follows .mixedOrders = true) (hl : es.length = (permOps p s ops).size) (hB : drawB (permOps p s ops) es st.n = true) (hU : U.le V)
    (h : DrawIn ρ P (permOps p s ops) U Q ((permOps p s ops).toList.zip es) st V) : ATrip ρ P (.region id ops true) Q st V :=
  a_drawp p s _ es U hP rfl hm hl hB hU h

end
end Go.AV
