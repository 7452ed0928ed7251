/- Cells with marks: what a memory looks like. -/
import Derived.Test.YtapelipehckbcaaMkT
namespace Go.AV
set_option linter.unusedVariables false
set_option linter.unusedSimpArgs false
variable {V V₀ V₁ : View}

abbrev mpv (b : Nat) : AVal := .v (.map (some b))
def rowV (c : Ce) (o n : Nat) : List AVal := (List.range n).map fun i => iv (c o i)
theorem rowV_len (c : Ce) (o n : Nat) : (rowV c o n).length = n := by simp [rowV]
theorem rowV_get {c : Ce} {o n i : Nat} (h : i < n) : (rowV c o n)[i]? = some (iv (c o i)) := by simp [rowV, h]
theorem rowV_set {c : Ce} {o n i : Nat} {v : Int} (h : i < n) : wrc (rowV c o n) i [iv v] = rowV (c.upd o i v) o n := by
  apply List.ext_getElem?
  intro j
  have hlen : (wrc (rowV c o n) i [iv v]).length = n := by simp [wrc, rowV_len]; omega
  by_cases hj : j < n
  · rw [rowV_get hj]
    simp only [wrc]
    by_cases e : j < i
    · rw [List.getElem?_append_left (by simp [rowV_len]; omega), List.getElem?_take_of_lt e, rowV_get hj, Ce.upd_other _ _ (by omega)]
    · rw [List.getElem?_append_right (by simp [rowV_len]; omega)]
      have h1 : (List.take i (rowV c o n)).length = i := by simp [rowV_len]; omega
      rw [h1]
      by_cases e2 : j = i
      · subst e2; simp [Ce.upd_same]
      · rw [List.getElem?_append_right (by simp; omega)]
        simp only [List.length_cons, List.length_nil, List.getElem?_drop]
        rw [show i + (0 + 1) + (j - i - (0 + 1)) = j by omega, rowV_get hj, Ce.upd_other _ _ (by omega)]
  · rw [List.getElem?_eq_none (by omega), List.getElem?_eq_none (by rw [rowV_len]; omega)]
theorem rowV_other {c : Ce} {o o' n i : Nat} {v : Int} (h : o' ≠ o) : rowV (c.upd o i v) o' n = rowV c o' n := by
  simp only [rowV]
  apply List.map_congr_left
  intro j _
  rw [Ce.upd_other _ _ (by omega)]

def Cells (xc : AVal) (n : Nat → Nat) (c : Ce) (L : Blks) : Prop :=
  ∃ (X : Nat → AVal) (Lc : Blks) (LL : Nat → Blks), Part xc 1 3 [X 0, X 1, X 2] Lc ∧ (∀ o, o < 3 → Part (X o) 1 (n o) (rowV c o (n o)) (LL o)) ∧ L = Lc ++ (LL 0 ++ (LL 1 ++ LL 2))
def mapsR : Ce → List Nat → List Ce → Blks
  | base, b :: ms, s :: ss => (b, .mp (dif s base)) :: mapsR s ms ss
  | _, _, _ => []
def Marks (xm : AVal) (base : Ce) (ss : List Ce) (L : Blks) : Prop :=
  ∃ (ms : List Nat) (Lm : Blks), ms.length = ss.length ∧ Part xm 1 ss.length (ms.reverse.map mpv) Lm ∧ L = Lm ++ mapsR base ms ss
/-- A memory: its cells; what they are held against by the top mark; what stood at each mark, the newest first. -/
def Mem (V : View) (b : Nat) (n : Nat → Nat) (c base : Ce) (ss : List Ce) (V₀ : View) : Prop :=
  ∃ xc xm L1 L2, Cells xc n c L1 ∧ Marks xm base ss L2 ∧ Own V V₀ ((b, .row [bv true, xc, xm]) :: (L1 ++ L2))

theorem Part.pos {x : AVal} {sz n : Nat} {cs : List AVal} {L : Blks} (h : Part x sz n cs L) (hn : 0 < n) : ∃ b cap, n ≤ cap ∧ x = .v (.slice (some ⟨b, 0, none⟩) n cap) ∧ cs.length = n * sz ∧ L = [(b, .rown cs (some (cap * sz)))] := by
  rcases h with ⟨_, h, _⟩ | h
  · omega
  · exact h
/-- One block among others turns. -/
theorem Own.turn {L : Blks} {b : Nat} {o o' : AObj} {A B : Blks} (h : Own V V₀ L) (e : L = A ++ (b, o) :: B) : Own (V.set b o') V₀ (A ++ (b, o') :: B) := by subst e; exact h.set o'

structure Opened (V : View) (b : Nat) (n : Nat → Nat) (c base : Ce) (ss : List Ce) (V₀ : View) (bc cap : Nat) (X : Nat → AVal) (xm : AVal) : Prop where
  row : V b = some (.row [bv true, .v (.slice (some ⟨bc, 0, none⟩) 3 cap), xm])
  cells : V bc = some (.rown [X 0, X 1, X 2] (some (cap * 1)))
  rows : ∀ o, o < 3 → Row V (X o) 1 (n o) (rowV c o (n o))
  put : ∀ o i, o < 3 → i < n o → ∃ r cp, X o = .v (.slice (some ⟨r, 0, none⟩) (n o) cp) ∧ V r = some (.rown (rowV c o (n o)) (some (cp * 1))) ∧ r ≠ b ∧
    ∀ v, Mem (V.set r (.rown (rowV (c.upd o i v) o (n o)) (some (cp * 1)))) b n (c.upd o i v) base ss V₀
  marks : ∃ cm, Row V xm 1 ss.length cm
  top : ∀ s t, ss = s :: t → ∃ (bm cm : Nat) (ms : List Nat) (bt : Nat), xm = .v (.slice (some ⟨bm, 0, none⟩) (t.length + 1) cm) ∧ ms.length = t.length ∧ V bm = some (.rown ((ms.reverse ++ [bt]).map mpv) (some (cm * 1))) ∧ V bt = some (.mp (dif s base)) ∧ bt ≠ b ∧
    ∀ base', Mem (V.set bt (.mp (dif s base'))) b n c base' ss V₀

theorem Mem.open {b : Nat} {n : Nat → Nat} {c base : Ce} {ss : List Ce} (h : Mem V b n c base ss V₀) : ∃ bc cap X xm, Opened V b n c base ss V₀ bc cap X xm := by
  obtain ⟨xc, xm, L1, L2, ⟨X, Lc, LL, h1, h2, rfl⟩, ⟨ms, Lm, m1, m2, rfl⟩, hO⟩ := h
  obtain ⟨bc, cap, hc1, rfl, hc3, rfl⟩ := h1.pos (by omega)
  have hb0 := hO.nd
  refine ⟨bc, cap, X, xm, hO.mem (by simp), hO.mem (by simp), fun o ho => (h2 o ho).row fun p hp => ?_, fun o i ho hi => ?_, ⟨_, m2.row fun p hp => hO.at_ p (by simp [hp])⟩, fun s t hs => ?_⟩
  · have : o = 0 ∨ o = 1 ∨ o = 2 := by omega
    rcases this with rfl | rfl | rfl <;> exact hO.at_ p (by simp [hp])
  · obtain ⟨r, cp, k1, k2, k3, k4⟩ := (h2 o ho).pos (by omega)
    have hm : ((r, AObj.rown (rowV c o (n o)) (some (cp * 1))) : Nat × AObj) ∈ [(bc, AObj.rown [X 0, X 1, X 2] (some (cap * 1)))] ++ (LL 0 ++ (LL 1 ++ LL 2)) ++ (Lm ++ mapsR base ms ss) := by
      have : o = 0 ∨ o = 1 ∨ o = 2 := by omega
      rcases this with rfl | rfl | rfl <;> simp [k4]
    have hne : r ≠ b := by
      rintro rfl
      simp only [List.map_cons, List.nodup_cons] at hb0
      exact hb0.1 (List.mem_map.2 ⟨_, hm, rfl⟩)
    refine ⟨r, cp, k2, hO.mem (List.mem_cons_of_mem _ hm), hne, fun v => ?_⟩
    -- the blocks, the one that turns apart
    have key : ∀ (LL' : Nat → Blks), (∀ o', o' < 3 → o' ≠ o → LL' o' = LL o') → LL' o = [(r, .rown (rowV (c.upd o i v) o (n o)) (some (cp * 1)))] →
        Own (V.set r (.rown (rowV (c.upd o i v) o (n o)) (some (cp * 1)))) V₀ ((b, .row [bv true, .v (.slice (some ⟨bc, 0, none⟩) 3 cap), xm]) :: ([(bc, AObj.rown [X 0, X 1, X 2] (some (cap * 1)))] ++ (LL' 0 ++ (LL' 1 ++ LL' 2)) ++ (Lm ++ mapsR base ms ss))) := by
      intro LL' e1 e2
      have : o = 0 ∨ o = 1 ∨ o = 2 := by omega
      rcases this with rfl | rfl | rfl
      · rw [e2, e1 1 (by omega) (by omega), e1 2 (by omega) (by omega)]
        have := hO.turn (b := r) (o := .rown (rowV c 0 (n 0)) (some (cp * 1))) (o' := .rown (rowV (c.upd 0 i v) 0 (n 0)) (some (cp * 1))) (A := [(b, .row [bv true, .v (.slice (some ⟨bc, 0, none⟩) 3 cap), xm]), (bc, AObj.rown [X 0, X 1, X 2] (some (cap * 1)))]) (B := LL 1 ++ LL 2 ++ (Lm ++ mapsR base ms ss)) (by rw [k4]; simp)
        simpa using this
      · rw [e2, e1 0 (by omega) (by omega), e1 2 (by omega) (by omega)]
        have := hO.turn (b := r) (o := .rown (rowV c 1 (n 1)) (some (cp * 1))) (o' := .rown (rowV (c.upd 1 i v) 1 (n 1)) (some (cp * 1))) (A := [(b, .row [bv true, .v (.slice (some ⟨bc, 0, none⟩) 3 cap), xm]), (bc, AObj.rown [X 0, X 1, X 2] (some (cap * 1)))] ++ LL 0) (B := LL 2 ++ (Lm ++ mapsR base ms ss)) (by rw [k4]; simp)
        simpa using this
      · rw [e2, e1 0 (by omega) (by omega), e1 1 (by omega) (by omega)]
        have := hO.turn (b := r) (o := .rown (rowV c 2 (n 2)) (some (cp * 1))) (o' := .rown (rowV (c.upd 2 i v) 2 (n 2)) (some (cp * 1))) (A := [(b, .row [bv true, .v (.slice (some ⟨bc, 0, none⟩) 3 cap), xm]), (bc, AObj.rown [X 0, X 1, X 2] (some (cap * 1)))] ++ LL 0 ++ LL 1) (B := Lm ++ mapsR base ms ss) (by rw [k4]; simp)
        simpa using this
    refine ⟨_, xm, _, _, ⟨X, _, fun o' => if o' = o then [(r, .rown (rowV (c.upd o i v) o (n o)) (some (cp * 1)))] else LL o', .inr ⟨bc, cap, hc1, rfl, hc3, rfl⟩, fun o' ho' => ?_, rfl⟩, ⟨ms, Lm, m1, m2, rfl⟩, key (fun o' => if o' = o then [(r, .rown (rowV (c.upd o i v) o (n o)) (some (cp * 1)))] else LL o') (fun o' _ e => by simp [e]) (by simp)⟩
    by_cases e : o' = o
    · subst e
      simp only [if_true]
      exact .inr ⟨r, cp, k1, k2, by simp [rowV_len], rfl⟩
    · simp only [e, if_false]
      rw [rowV_other e]; exact h2 o' ho'
  · subst hs
    match ms, m1 with
    | bt :: ms, m1 =>
      have m1' : ms.length = t.length := by simpa using m1
      obtain ⟨bm, cm, q1, rfl, q3, rfl⟩ := m2.pos (by simp)
      have hm : ((bt, AObj.mp (dif s base)) : Nat × AObj) ∈ [(bc, AObj.rown [X 0, X 1, X 2] (some (cap * 1)))] ++ (LL 0 ++ (LL 1 ++ LL 2)) ++ ([(bm, AObj.rown ((bt :: ms).reverse.map mpv) (some (cm * 1)))] ++ mapsR base (bt :: ms) (s :: t)) := by simp [mapsR]
      refine ⟨bm, cm, ms, bt, rfl, m1', ?_, hO.mem (List.mem_cons_of_mem _ hm), ?_, fun base' => ?_⟩
      · have := hO.mem (b := bm) (o := .rown ((bt :: ms).reverse.map mpv) (some (cm * 1))) (by simp)
        rw [this]; simp
      · rintro rfl
        simp only [List.map_cons, List.nodup_cons] at hb0
        exact hb0.1 (List.mem_map.2 ⟨_, hm, rfl⟩)
      · refine ⟨_, _, _, _, ⟨X, _, LL, .inr ⟨bc, cap, hc1, rfl, hc3, rfl⟩, h2, rfl⟩, ⟨bt :: ms, _, m1, .inr ⟨bm, cm, q1, rfl, q3, rfl⟩, rfl⟩, ?_⟩
        have := hO.turn (b := bt) (o := .mp (dif s base)) (o' := .mp (dif s base')) (A := (b, .row [bv true, .v (.slice (some ⟨bc, 0, none⟩) 3 cap), .v (.slice (some ⟨bm, 0, none⟩) (t.length + 1) cm)]) :: ([(bc, AObj.rown [X 0, X 1, X 2] (some (cap * 1)))] ++ (LL 0 ++ (LL 1 ++ LL 2)) ++ [(bm, AObj.rown ((bt :: ms).reverse.map mpv) (some (cm * 1)))])) (B := mapsR s ms t) (by simp [mapsR])
        simpa [mapsR] using this
#print axioms Mem.open
end Go.AV
