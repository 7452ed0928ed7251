import Derived.Test.YtapelipehckbcaaT
import Derived.Test.YtapelipehckbcaaAvL
set_option linter.unusedVariables false
set_option linter.unusedSimpArgs false
namespace Go.AV
theorem blockA_hit {id : Nat} {Q : AQ} {st : ASt} {V : View} (h : Q .normal st V) : blockA id Q (.exit id) st V := by simpa [blockA] using h
theorem thenA_x {K : ASt → View → Prop} {Q : AQ} {i : Nat} {st : ASt} {V : View} (h : Q (.exit i) st V) : thenA K Q (.exit i) st V := h
theorem blockA_x {id i : Nat} {Q : AQ} {st : ASt} {V : View} (hn : i ≠ id) (h : Q (.exit i) st V) : blockA id Q (.exit i) st V := by simpa [blockA, hn] using h
theorem thenA_n {K : ASt → View → Prop} {Q : AQ} {st : ASt} {V : View} (h : K st V) : thenA K Q .normal st V := h
def four (f : Nat → Int) : List Int := [f 0, f 1, f 2, f 3]
def ints (l : List Int) : List AVal := l.map fun i => .v (.int .i64 i)
abbrev bk (L U : Nat → Int) : List AVal := ints (four L ++ four U)
abbrev iv (i : Int) : AVal := .v (.int .i64 i)
abbrev pt (b o : Nat) : AVal := .v (.pointer (some ⟨b, o, none⟩))
theorem four_get {f : Nat → Int} {i : Nat} (h : i < 4) : (four f)[i]? = some (f i) := by
  match i, h with
  | 0, _ => rfl
  | 1, _ => rfl
  | 2, _ => rfl
  | 3, _ => rfl
theorem bkL {L U : Nat → Int} {i off : Nat} (h : i < 4) (ho : off = i) : rdc false 1 (bk L U) off = some (iv (L i)) := by
  subst ho
  match off, h with
  | 0, _ => rfl
  | 1, _ => rfl
  | 2, _ => rfl
  | 3, _ => rfl
theorem bkU {L U : Nat → Int} {i off : Nat} (h : i < 4) (ho : off = 4 + i) : rdc false 1 (bk L U) off = some (iv (U i)) := by
  subst ho
  match i, h with
  | 0, _ => rfl
  | 1, _ => rfl
  | 2, _ => rfl
  | 3, _ => rfl
theorem rd4 {f : Nat → Int} {i off : Nat} (h : i < 4) (ho : off = i) : rdc false 1 (ints (four f)) off = some (iv (f i)) := by
  subst ho
  match off, h with
  | 0, _ => rfl
  | 1, _ => rfl
  | 2, _ => rfl
  | 3, _ => rfl
def upd (f : Nat → Int) (k : Nat) (x : Int) : Nat → Int := fun i => if i = k then x else f i
theorem wr4 {f : Nat → Int} {k off : Nat} {x : Int} (h : k < 4) (ho : off = k) : wrc (ints (four f)) off [iv x] = ints (four (upd f k x)) := by
  subst ho
  match off, h with
  | 0, _ => rfl
  | 1, _ => rfl
  | 2, _ => rfl
  | 3, _ => rfl
theorem bkwL {L U : Nat → Int} {k off : Nat} {x : Int} (h : k < 4) (ho : off = k) : wrc (bk L U) off [iv x] = bk (upd L k x) U := by
  subst ho
  match off, h with
  | 0, _ => rfl
  | 1, _ => rfl
  | 2, _ => rfl
  | 3, _ => rfl
theorem bkwU {L U : Nat → Int} {k off : Nat} {x : Int} (h : k < 4) (ho : off = 4 + k) : wrc (bk L U) off [iv x] = bk L (upd U k x) := by
  subst ho
  match k, h with
  | 0, _ => rfl
  | 1, _ => rfl
  | 2, _ => rfl
  | 3, _ => rfl
def okB (L U : Nat → Int) : Prop := ∀ i, i < 4 → 0 ≤ L i ∧ L i ≤ 1099511627776 ∧ 0 ≤ U i ∧ U i ≤ L i
theorem bkA {L U : Nat → Int} : rdc true 8 (bk L U) 0 = some (.agg (bk L U)) := rfl
theorem bkAL {L U : Nat → Int} : rdc true 4 (bk L U) 0 = some (.agg (ints (four L))) := rfl
theorem bkAU {L U : Nat → Int} : rdc true 4 (bk L U) 4 = some (.agg (ints (four U))) := rfl
theorem rdA {U : Nat → Int} : rdc true 4 (ints (four U)) 0 = some (.agg (ints (four U))) := rfl
theorem wrA {f g : Nat → Int} : wrc (ints (four f)) 0 (ints (four g)) = ints (four g) := rfl
theorem wrUA {L U g : Nat → Int} : wrc (bk L U) 4 (ints (four g)) = bk L g := rfl
theorem wrBA {L U L' U' : Nat → Int} : wrc (bk L U) 0 (bk L' U') = bk L' U' := rfl
/-- Charges. -/
abbrev Ch := List (Nat × Int)
def chs (l : Ch) : List AVal := l.map fun c => .agg [iv c.1, iv c.2]
theorem chs_len (l : Ch) : (chs l).length = l.length := by simp [chs]
theorem chs_get {l : Ch} {i : Nat} (h : i < l.length) : (chs l)[((i : Nat) : Int).toNat]? = some (.agg [iv (l[i]).1, iv (l[i]).2]) := by simp [chs, h]
theorem ref2 (a b : Int) (m : Imm) (v : Value) (h : Tr m (.agg [iv a, iv b]) v) : v.cells.size = 2 ∧ (true = true → ∃ c, v = .agg c) ∧ (true = false → v.cells = #[v]) := by
  simp only [Tr, TrL] at h
  obtain ⟨_, rfl, x, _, rfl, _, y, _, rfl, _, rfl⟩ := h
  exact ⟨rfl, fun _ => ⟨_, rfl⟩, fun h => by cases h⟩
def okC (l : Ch) : Prop := l.length ≤ 4096 ∧ ∀ c ∈ l, c.1 < 4 ∧ -1099511627776 ≤ c.2 ∧ c.2 ≤ 1099511627776
theorem okC.get {l : Ch} (h : okC l) {i : Nat} (hi : i < l.length) : (l[i]).1 < 4 ∧ -1099511627776 ≤ (l[i]).2 ∧ (l[i]).2 ≤ 1099511627776 := h.2 _ (List.getElem_mem hi)
def badK (L U : Nat → Int) (k : Nat) : Int := if U k > L k then 252 else if U k < 0 then 253 else 0
def failsF (L U : Nat → Int) : Nat → Nat → Int × Int
  | _, 0 => (-1, 0)
  | i, m + 1 => if badK L U i ≠ 0 then (i, badK L U i) else failsF L U (i + 1) m
def run (U : Nat → Int) (l : Ch) : Nat → (Nat → Int)
  | 0 => U
  | i + 1 => match l[i]? with
    | some c => upd (run U l i) c.1 (run U l i c.1 + c.2)
    | none => run U l i
theorem run_succ {U : Nat → Int} {l : Ch} {i : Nat} (h : i < l.length) : run U l (i + 1) = upd (run U l i) (l[i]).1 (run U l i (l[i]).1 + (l[i]).2) := by simp [run, h]
def small (U : Nat → Int) : Prop := ∀ k, -1099511627776 ≤ U k ∧ U k ≤ 1099511627776
theorem run_small {U : Nat → Int} {l : Ch} (hU : small U) (hl : okC l) : ∀ i, i ≤ l.length → ∀ k, -1099511627776 * ((i : Int) + 1) ≤ run U l i k ∧ run U l i k ≤ 1099511627776 * ((i : Int) + 1)
  | 0, _, k => by simpa [run] using hU k
  | i + 1, h, k => by
    have ih := run_small hU hl i (by omega)
    have hi : i < l.length := by omega
    have hc := hl.get hi
    rw [run_succ hi]
    simp only [upd]
    split
    · have := ih (l[i]).1
      push_cast; omega
    · have := ih k
      push_cast; omega
end Go.AV
namespace Go.Proofs
open Go.AV
theorem Try.okF6 : calleeOK Try.prog 6 = true := by kernel_rfl
theorem Try.okF10 : calleeOK Try.prog 10 = true := by kernel_rfl
theorem Try.okF11 : calleeOK Try.prog 11 = true := by kernel_rfl
theorem Try.okF12 : calleeOK Try.prog 12 = true := by kernel_rfl
theorem Try.okF13 : calleeOK Try.prog 13 = true := by kernel_rfl
theorem Try.okF14 : calleeOK Try.prog 14 = true := by kernel_rfl
theorem Try.okF15 : calleeOK Try.prog 15 = true := by kernel_rfl
theorem Try.okF16 : calleeOK Try.prog 16 = true := by kernel_rfl
theorem Try.okF41 : calleeOK Try.prog 41 = true := by kernel_rfl
theorem Try.okF42 : calleeOK Try.prog 42 = true := by kernel_rfl
theorem Try.okF43 : calleeOK Try.prog 43 = true := by kernel_rfl
theorem Try.okF44 : calleeOK Try.prog 44 = true := by kernel_rfl
theorem Try.okF45 : calleeOK Try.prog 45 = true := by kernel_rfl
theorem Try.okF46 : calleeOK Try.prog 46 = true := by kernel_rfl
theorem Try.okF66 : calleeOK Try.prog 66 = true := by kernel_rfl
theorem bk_is (k : Int) (V : View) : ACalls Try.prog 46 [iv k] V fun x V' => x = .v (.bool (decide (k ≥ 0) && decide (k < 4))) ∧ V' = V := by
  refine a_fn (fn := Try.f46) Try.func46 rfl ?_ rfl
  refine a_seq (a_region ?_)
  refine a_v rfl (s_assign ev_c) ?_
  refine a_nil ?_
  refine a_seq (a_region ?_)
  refine a_v rfl (s_move (ev_t rfl)) ?_
  refine a_v rfl (s_cmp (ev_t rfl) ev_c rfl) ?_
  refine a_v rfl (s_move (ev_t rfl)) ?_
  refine a_f rfl (f_guard rfl (gd_b rfl (ev_t rfl)) fun h2 => s_move (ev_t rfl)) ?_
  refine a_f rfl (f_guard rfl (gd_b rfl (ev_t rfl)) fun h2 => s_cmp (ev_cond (ev_t rfl) h2) ev_c rfl) ?_
  refine a_v rfl (s_pickand (ev_t rfl) (ev_t rfl)) ?_
  refine a_v rfl (s_assign (ev_t rfl)) ?_
  refine a_nil ?_
  refine a_ret ?_
  exact ⟨[_], V, ⟨_, _, rfl, ev_t rfl, rfl⟩, View.le_refl _, rfl, rfl⟩
theorem bk_right {L U : Nat → Int} (h : okB L U) (V : View) : ACalls Try.prog 45 [.agg (bk L U)] V fun x V' => x = .v (.bool true) ∧ V' = V := by
  refine a_fn (fn := Try.f45) Try.func45 rfl ?_ rfl
  refine a_seq (a_region ?_)
  refine a_vp rfl (s_box (ev_t rfl) rfl) fun x V' hx => ?_
  obtain ⟨b1, nb1, rfl, rfl⟩ := hx
  refine a_v rfl (s_assign ev_c) ?_
  refine a_nil ?_
  refine a_seq (a_seq (a_region ?_))
  refine a_v rfl (s_move ev_c) ?_
  refine a_nil ?_

  refine a_block ?_
  refine a_loop (fun n st V' => ∃ (i : Nat) (l : List (Nat × AVal)), n = 4 - i ∧ i ≤ 4 ∧ st = ⟨l, 38⟩ ∧ SubT [(4, iv i), (1, pt b1 0)] l ∧ V' = V.set b1 (.row (bk L U))) ?_ 4 _ _ ⟨0, _, rfl, by omega, rfl, ⟨rfl, rfl, trivial⟩, rfl⟩
  rintro n st V' ⟨i, l, rfl, hi, rfl, hs, rfl⟩
  refine a_forget hs ?_
  refine a_seq (a_region ?_)
  refine a_v rfl (s_cmp (ev_t rfl) ev_c rfl) ?_
  refine a_nil ?_

  refine a_seq (a_cond (ev_t rfl) (fun hc => a_skip ?_) (fun hc => a_exit ?_))
  · have hi4 : i < 4 := by simp at hc; omega
    have hk := h i hi4
    refine a_seq (a_block ?_)

    refine a_seq (a_region ?_)
    refine a_v rfl (s_move (ev_t rfl)) ?_
    refine a_v rfl (s_assign (ev_t rfl)) ?_
    refine a_nil ?_
    refine a_seq (a_draw [false, false, false, false, false, false, false, false, false, false, false, false, false, false, false, false, false, false, false, false, false, false, false, false, false, false, false, false, false, false] (V.set b1 (.row (bk L U))) Try.mixed rfl rfl (View.le_refl _) ?_)
    refine d_v (fun V' hU => f_plain rfl (s_move (ev_o rfl rfl))) ?_
    refine d_v (fun V' hU => f_plain rfl (s_fieldAddr Try.f49_0 rfl (ev_o rfl rfl))) ?_
    refine d_v (fun V' hU => f_plain rfl (s_idxa Try.ar24 (ev_o rfl rfl) (ev_o rfl rfl) (by omega) (by omega))) ?_
    refine d_v (fun V' hU => f_plain rfl (s_load Try.sh3 (ev_o rfl rfl) (hU _ _ (by simp [View.set, *] <;> first | exact ⟨rfl, rfl⟩ | exact rfl)) (bkL hi4 (by simp)))) ?_
    refine d_v (fun V' hU => f_plain rfl (s_cmp (ev_o rfl rfl) ev_c rfl)) ?_
    refine d_v (fun V' hU => f_plain rfl (s_move (ev_o rfl rfl))) ?_
    refine d_v (fun V' hU => f_guard rfl (gd_b rfl (ev_o rfl rfl)) fun h5 => s_move (ev_o rfl rfl)) ?_
    refine d_v (fun V' hU => f_guard rfl (gd_b rfl (ev_o rfl rfl)) fun h5 => s_fieldAddr Try.f49_0 rfl (ev_o rfl rfl)) ?_
    refine d_v (fun V' hU => f_guard rfl (gd_b rfl (ev_o rfl rfl)) fun h5 => s_idxa Try.ar24 (ev_cond (ev_o rfl rfl) h5) (ev_cond (ev_o rfl rfl) h5) (by omega) (by omega)) ?_
    refine d_v (fun V' hU => f_guard rfl (gd_b rfl (ev_o rfl rfl)) fun h5 => s_load Try.sh3 (ev_cond (ev_o rfl rfl) h5) (hU _ _ (by simp [View.set, *] <;> first | exact ⟨rfl, rfl⟩ | exact rfl)) (bkL hi4 (by simp))) ?_
    refine d_v (fun V' hU => f_guard rfl (gd_b rfl (ev_o rfl rfl)) fun h5 => s_cmp (ev_cond (ev_o rfl rfl) h5) ev_c rfl) ?_
    refine d_v (fun V' hU => f_plain rfl (s_pickor (ev_o rfl rfl) (ev_o rfl rfl))) ?_
    refine d_v (fun V' hU => f_plain rfl (s_move (ev_o rfl rfl))) ?_
    refine d_v (fun V' hU => f_guard rfl (gd_b rfl (ev_o rfl rfl)) fun h12 => s_move (ev_o rfl rfl)) ?_
    refine d_v (fun V' hU => f_guard rfl (gd_b rfl (ev_o rfl rfl)) fun h12 => s_fieldAddr Try.f49_1 rfl (ev_o rfl rfl)) ?_
    refine d_v (fun V' hU => f_guard rfl (gd_b rfl (ev_o rfl rfl)) fun h12 => s_idxa Try.ar24 (ev_cond (ev_o rfl rfl) h12) (ev_cond (ev_o rfl rfl) h12) (by omega) (by omega)) ?_
    refine d_v (fun V' hU => f_guard rfl (gd_b rfl (ev_o rfl rfl)) fun h12 => s_load Try.sh3 (ev_cond (ev_o rfl rfl) h12) (hU _ _ (by simp [View.set, *] <;> first | exact ⟨rfl, rfl⟩ | exact rfl)) (bkU hi4 (by simp))) ?_
    refine d_v (fun V' hU => f_guard rfl (gd_b rfl (ev_o rfl rfl)) fun h12 => s_cmp (ev_cond (ev_o rfl rfl) h12) ev_c rfl) ?_
    refine d_v (fun V' hU => f_plain rfl (s_pickor (ev_o rfl rfl) (ev_o rfl rfl))) ?_
    refine d_v (fun V' hU => f_plain rfl (s_move (ev_o rfl rfl))) ?_
    refine d_v (fun V' hU => f_guard rfl (gd_b rfl (ev_o rfl rfl)) fun h19 => s_move (ev_o rfl rfl)) ?_
    refine d_v (fun V' hU => f_guard rfl (gd_b rfl (ev_o rfl rfl)) fun h19 => s_fieldAddr Try.f49_1 rfl (ev_o rfl rfl)) ?_
    refine d_v (fun V' hU => f_guard rfl (gd_b rfl (ev_o rfl rfl)) fun h19 => s_idxa Try.ar24 (ev_cond (ev_o rfl rfl) h19) (ev_cond (ev_o rfl rfl) h19) (by omega) (by omega)) ?_
    refine d_v (fun V' hU => f_guard rfl (gd_b rfl (ev_o rfl rfl)) fun h19 => s_load Try.sh3 (ev_cond (ev_o rfl rfl) h19) (hU _ _ (by simp [View.set, *] <;> first | exact ⟨rfl, rfl⟩ | exact rfl)) (bkU hi4 (by simp))) ?_
    refine d_v (fun V' hU => f_guard rfl (gd_b rfl (ev_o rfl rfl)) fun h19 => s_move (ev_o rfl rfl)) ?_
    refine d_v (fun V' hU => f_guard rfl (gd_b rfl (ev_o rfl rfl)) fun h19 => s_fieldAddr Try.f49_0 rfl (ev_o rfl rfl)) ?_
    refine d_v (fun V' hU => f_guard rfl (gd_b rfl (ev_o rfl rfl)) fun h19 => s_idxa Try.ar24 (ev_cond (ev_o rfl rfl) h19) (ev_cond (ev_o rfl rfl) h19) (by omega) (by omega)) ?_
    refine d_v (fun V' hU => f_guard rfl (gd_b rfl (ev_o rfl rfl)) fun h19 => s_load Try.sh3 (ev_cond (ev_o rfl rfl) h19) (hU _ _ (by simp [View.set, *] <;> first | exact ⟨rfl, rfl⟩ | exact rfl)) (bkL hi4 (by simp))) ?_
    refine d_v (fun V' hU => f_guard rfl (gd_b rfl (ev_o rfl rfl)) fun h19 => s_cmp (ev_cond (ev_o rfl rfl) h19) (ev_cond (ev_o rfl rfl) h19) rfl) ?_
    refine d_v (fun V' hU => f_plain rfl (s_pickor (ev_o rfl rfl) (ev_o rfl rfl))) ?_
    refine d_nil ?_

    refine a_cond (ev_t rfl) (fun hc => ?_) (fun hc => a_skip ?_)
    · exfalso; simp at hc; omega
    refine a_region ?_
    refine a_v rfl (s_add (ev_t rfl) ev_c (by omega) (by omega)) ?_
    refine a_v rfl (s_move (ev_t rfl)) ?_
    refine a_nil ?_
    exact ⟨4 - (i + 1), by omega, i + 1, _, rfl, by omega, rfl, ⟨rfl, rfl, trivial⟩, rfl⟩
  repeat first | refine thenA_x ?_ | refine blockA_hit ?_ | refine blockA_x (by decide) ?_
  refine a_seq (a_region ?_)
  refine a_v rfl (s_assign ev_c) ?_
  refine a_nil ?_
  refine a_ret ?_
  exact ⟨[_], V, ⟨_, _, rfl, ev_t rfl, rfl⟩, View.le_self_set nb1, rfl, rfl⟩
theorem bk_check {cs : Ch} (h : okC cs) (V : View) : ACalls Try.prog 44 [.tree 2 (chs cs)] V fun x V' => x = iv 0 ∧ V' = V := by
  refine a_fn (fn := Try.f44) Try.func44 rfl ?_ rfl
  have hlen := h.1
  refine a_seq (a_region ?_)
  refine a_v rfl (s_assign ev_c) ?_
  refine a_nil ?_
  refine a_seq (a_seq (a_region ?_))
  refine a_v rfl (s_move (ev_t rfl)) ?_
  refine a_v rfl (s_lent Try.us50 (ev_t rfl)) ?_
  refine a_v rfl (s_cmp (ev_t rfl) ev_c rfl) ?_
  refine a_nil ?_
  refine a_cond (ev_t rfl) (fun hc => ?_) (fun hc => a_skip ?_)
  · exfalso; simp [chs_len] at hc; omega
  refine a_seq (a_seq (a_region ?_))
  refine a_v rfl (s_move (ev_t rfl)) ?_
  refine a_v rfl (s_lent Try.us50 (ev_t rfl)) ?_
  refine a_v rfl (s_move ev_c) ?_
  refine a_nil ?_
  refine a_block ?_
  refine a_loop (fun n st V' => ∃ (i : Nat) (l : List (Nat × AVal)), n = cs.length - i ∧ i ≤ cs.length ∧ st = ⟨l, 29⟩ ∧ SubT [(10, iv i), (9, iv (chs cs).length), (8, .tree 2 (chs cs))] l ∧ V.le V') ?_ cs.length _ _ ⟨0, _, rfl, by omega, rfl, ⟨rfl, rfl, rfl, trivial⟩, View.le_refl _⟩
  rintro n st V' ⟨i, l, rfl, hi, rfl, hs, hV⟩
  refine a_forget hs (a_weaken hV ?_)
  refine a_seq (a_region ?_)
  refine a_v rfl (s_cmp (ev_t rfl) (ev_t rfl) rfl) ?_
  refine a_nil ?_
  refine a_seq (a_cond (ev_t rfl) (fun hc => a_skip ?_) (fun hc => a_exit ?_))
  · have hi' : i < cs.length := by simp [chs_len] at hc; omega
    have hk := h.get hi'
    refine a_seq (a_block ?_)
    refine a_seq (a_region ?_)
    refine a_v rfl (s_idxt Try.sl50 (ev_t rfl) (ev_t rfl) (by omega) (chs_get hi')) ?_
    refine a_v rfl (s_loadr Try.sh52 rfl (ev_t rfl) (ref2 _ _)) ?_
    refine a_vp rfl (s_alloc Try.z52) fun x V' hx => ?_
    obtain ⟨b4, nb4, rfl, rfl⟩ := hx
    refine a_s (s_store Try.sh52 (ev_t rfl) (ev_t rfl) (by simp [View.set, *] <;> first | exact ⟨rfl, rfl⟩ | exact rfl) rfl rfl (by first | decide | simp)) ?_
    refine a_nil ?_
    refine a_seq (a_region ?_)
    refine a_v rfl (s_fieldAddr Try.f52_0 rfl (ev_t rfl)) ?_
    refine a_v rfl (s_load Try.sh3 (ev_t rfl) (by simp [View.set, *] <;> first | exact ⟨rfl, rfl⟩ | exact rfl) rfl) ?_
    refine a_vp rfl (s_call Try.okF46 ev_f (.cons (ev_t rfl) .nil) (bk_is _ _)) fun x V' hx => ?_
    obtain ⟨rfl, rfl⟩ := hx
    refine a_v rfl (s_not (ev_t rfl)) ?_
    refine a_v rfl (s_move (ev_t rfl)) ?_
    refine a_f rfl (f_guard rfl (gd_b rfl (ev_t rfl)) fun h4 => s_fieldAddr Try.f52_1 rfl (ev_t rfl)) ?_
    refine a_f rfl (f_guard rfl (gd_b rfl (ev_t rfl)) fun h4 => s_load Try.sh3 (ev_cond (ev_t rfl) h4) (by simp [View.set, *] <;> first | exact ⟨rfl, rfl⟩ | exact rfl) rfl) ?_
    refine a_f rfl (f_guard rfl (gd_b rfl (ev_t rfl)) fun h4 => s_cmp (ev_cond (ev_t rfl) h4) ev_c rfl) ?_
    refine a_v rfl (s_pickor (ev_t rfl) (ev_t rfl)) ?_
    refine a_v rfl (s_move (ev_t rfl)) ?_
    refine a_f rfl (f_guard rfl (gd_b rfl (ev_t rfl)) fun h9 => s_fieldAddr Try.f52_1 rfl (ev_t rfl)) ?_
    refine a_f rfl (f_guard rfl (gd_b rfl (ev_t rfl)) fun h9 => s_load Try.sh3 (ev_cond (ev_t rfl) h9) (by simp [View.set, *] <;> first | exact ⟨rfl, rfl⟩ | exact rfl) rfl) ?_
    refine a_f rfl (f_guard rfl (gd_b rfl (ev_t rfl)) fun h9 => s_cmp (ev_cond (ev_t rfl) h9) ev_c rfl) ?_
    refine a_v rfl (s_pickor (ev_t rfl) (ev_t rfl)) ?_
    refine a_nil ?_
    refine a_cond (ev_t rfl) (fun hc => ?_) (fun hc => a_skip ?_)
    · exfalso; simp at hc; omega
    refine a_region ?_
    refine a_v rfl (s_add (ev_t rfl) ev_c (by omega) (by omega)) ?_
    refine a_v rfl (s_move (ev_t rfl)) ?_
    refine a_nil ?_
    exact ⟨cs.length - (i + 1), by omega, i + 1, _, rfl, by omega, rfl, ⟨rfl, rfl, rfl, trivial⟩, View.le_set (View.le_self_set nb4) nb4⟩
  repeat first | refine thenA_x ?_ | refine blockA_hit ?_ | refine blockA_x (by decide) ?_
  refine a_seq (a_region ?_)
  refine a_v rfl (s_assign ev_c) ?_
  refine a_nil ?_
  refine a_ret ?_
  exact ⟨[_], V, ⟨_, _, rfl, ev_t rfl, rfl⟩, View.le_refl _, rfl, rfl⟩
theorem bk_both {L U : Nat → Int} {cs : Ch} (hb : okB L U) (h : okC cs) (V : View) : ACalls Try.prog 41 [.agg (bk L U), .tree 2 (chs cs)] V fun x V' => x = iv 0 ∧ V' = V := by
  refine a_fn (fn := Try.f41) Try.func41 rfl ?_ rfl
  refine a_seq (a_region ?_)
  refine a_vp rfl (s_box (ev_t rfl) rfl) fun x V' hx => ?_
  obtain ⟨b1, nb1, rfl, rfl⟩ := hx
  refine a_v rfl (s_assign ev_c) ?_
  refine a_nil ?_
  refine a_seq (a_seq (a_region ?_))
  refine a_v rfl (s_load Try.sh49 (ev_t rfl) (by simp [View.set, *] <;> first | exact ⟨rfl, rfl⟩ | exact rfl) bkA) ?_
  refine a_vp rfl (s_call Try.okF45 ev_f (.cons (ev_t rfl) .nil) (bk_right hb _)) fun x V' hx => ?_
  obtain ⟨rfl, rfl⟩ := hx
  refine a_v rfl (s_not (ev_t rfl)) ?_
  refine a_nil ?_
  refine a_cond (ev_t rfl) (fun hc => ?_) (fun hc => a_skip ?_)
  · exfalso; simp at hc
  refine a_seq (a_region ?_)
  refine a_v rfl (s_move (ev_t rfl)) ?_
  refine a_vp rfl (s_call Try.okF44 ev_f (.cons (ev_t rfl) .nil) (bk_check h _)) fun x V' hx => ?_
  obtain ⟨rfl, rfl⟩ := hx
  refine a_v rfl (s_assign (ev_t rfl)) ?_
  refine a_nil ?_
  refine a_ret ?_
  exact ⟨[_], V, ⟨_, _, rfl, ev_t rfl, rfl⟩, View.le_self_set nb1, rfl, rfl⟩
theorem bk_fails (L U : Nat → Int) (V : View) : ACalls Try.prog 43 [.agg (bk L U)] V fun x V' => x = .tuple [iv (failsF L U 0 4).1, iv (failsF L U 0 4).2] ∧ V' = V := by
  refine a_fn (fn := Try.f43) Try.func43 rfl ?_ rfl
  refine a_seq (a_region ?_)
  refine a_vp rfl (s_box (ev_t rfl) rfl) fun x V' hx => ?_
  obtain ⟨b1, nb1, rfl, rfl⟩ := hx
  refine a_v rfl (s_assign ev_c) ?_
  refine a_v rfl (s_assign ev_c) ?_
  refine a_nil ?_
  refine a_seq (a_seq (a_region ?_))
  refine a_v rfl (s_move ev_c) ?_
  refine a_nil ?_
  refine a_block ?_
  refine a_loop (fun n st V' => ∃ (i : Nat) (l : List (Nat × AVal)), n = 4 - i ∧ i ≤ 4 ∧ st = ⟨l, 27⟩ ∧ SubT [(5, iv i), (1, pt b1 0)] l ∧ V' = V.set b1 (.row (bk L U)) ∧ failsF L U 0 4 = failsF L U i (4 - i)) ?_ 4 _ _ ⟨0, _, rfl, by omega, rfl, ⟨rfl, rfl, trivial⟩, rfl, rfl⟩
  rintro n st V' ⟨i, l, rfl, hi, rfl, hs, rfl, hf⟩
  refine a_forget hs ?_
  refine a_seq (a_region ?_)
  refine a_v rfl (s_cmp (ev_t rfl) ev_c rfl) ?_
  refine a_nil ?_
  refine a_seq (a_cond (ev_t rfl) (fun hc => a_skip ?_) (fun hc => a_exit ?_))
  · have hi4 : i < 4 := by simp at hc; omega
    have hf' : failsF L U 0 4 = if badK L U i ≠ 0 then ((i : Int), badK L U i) else failsF L U (i + 1) (4 - (i + 1)) := by
      rw [hf, show 4 - i = (4 - (i + 1)) + 1 by omega, failsF]
    refine a_seq (a_block ?_)
    refine a_seq (a_region ?_)
    refine a_v rfl (s_move (ev_t rfl)) ?_
    refine a_v rfl (s_assign (ev_t rfl)) ?_
    refine a_nil ?_
    refine a_block ?_
    refine a_seq (a_draw [false, false, false, false, false, false, false, false, false, false] (V.set b1 (.row (bk L U))) Try.mixed rfl rfl (View.le_refl _) ?_)
    refine d_v (fun V' hU => f_plain rfl (s_move (ev_o rfl rfl))) ?_
    refine d_v (fun V' hU => f_plain rfl (s_fieldAddr Try.f49_1 rfl (ev_o rfl rfl))) ?_
    refine d_v (fun V' hU => f_plain rfl (s_idxa Try.ar24 (ev_o rfl rfl) (ev_o rfl rfl) (by omega) (by omega))) ?_
    refine d_v (fun V' hU => f_plain rfl (s_load Try.sh3 (ev_o rfl rfl) (hU _ _ (by simp [View.set, *] <;> first | exact ⟨rfl, rfl⟩ | exact rfl)) (bkU hi4 (by simp)))) ?_
    refine d_v (fun V' hU => f_plain rfl (s_move (ev_o rfl rfl))) ?_
    refine d_v (fun V' hU => f_plain rfl (s_fieldAddr Try.f49_0 rfl (ev_o rfl rfl))) ?_
    refine d_v (fun V' hU => f_plain rfl (s_idxa Try.ar24 (ev_o rfl rfl) (ev_o rfl rfl) (by omega) (by omega))) ?_
    refine d_v (fun V' hU => f_plain rfl (s_load Try.sh3 (ev_o rfl rfl) (hU _ _ (by simp [View.set, *] <;> first | exact ⟨rfl, rfl⟩ | exact rfl)) (bkL hi4 (by simp)))) ?_
    refine d_v (fun V' hU => f_plain rfl (s_cmp (ev_o rfl rfl) (ev_o rfl rfl) rfl)) ?_
    refine d_v (fun V' hU => f_plain rfl (s_assign (ev_o rfl rfl))) ?_
    refine d_nil ?_
    refine a_cond (ev_t rfl) (fun hc => ?_) (fun hc => ?_)
    · have hb : badK L U i = 252 := by simp at hc; simp [badK, hc]
      refine a_seq (a_region ?_)
      refine a_v rfl (s_move (ev_t rfl)) ?_
      refine a_v rfl (s_assign (ev_t rfl)) ?_
      refine a_v rfl (s_assign ev_c) ?_
      refine a_nil ?_
      refine a_ret ?_
      exact ⟨[_, _], V, ⟨_, _, rfl, ev_t rfl, _, _, rfl, ev_t rfl, rfl⟩, View.le_self_set nb1, by rw [hf', hb]; rfl, rfl⟩
    refine a_seq (a_region ?_)
    refine a_v rfl (s_move (ev_t rfl)) ?_
    refine a_v rfl (s_fieldAddr Try.f49_1 rfl (ev_t rfl)) ?_
    refine a_v rfl (s_idxa Try.ar24 (ev_t rfl) (ev_t rfl) (by omega) (by omega)) ?_
    refine a_v rfl (s_load Try.sh3 (ev_t rfl) (by simp [View.set, *] <;> first | exact ⟨rfl, rfl⟩ | exact rfl) (bkU hi4 (by simp))) ?_
    refine a_v rfl (s_cmp (ev_t rfl) ev_c rfl) ?_
    refine a_v rfl (s_assign (ev_t rfl)) ?_
    refine a_nil ?_
    refine a_cond (ev_t rfl) (fun hc2 => ?_) (fun hc2 => a_skip ?_)
    · have hb : badK L U i = 253 := by simp at hc hc2; simp [badK, hc2, Int.not_lt.2 hc]
      refine a_seq (a_region ?_)
      refine a_v rfl (s_move (ev_t rfl)) ?_
      refine a_v rfl (s_assign (ev_t rfl)) ?_
      refine a_v rfl (s_assign ev_c) ?_
      refine a_nil ?_
      refine a_ret ?_
      exact ⟨[_, _], V, ⟨_, _, rfl, ev_t rfl, _, _, rfl, ev_t rfl, rfl⟩, View.le_self_set nb1, by rw [hf', hb]; rfl, rfl⟩
    have hb : badK L U i = 0 := by simp at hc hc2; simp [badK, Int.not_lt.2 hc, Int.not_lt.2 hc2]
    refine a_region ?_
    refine a_v rfl (s_add (ev_t rfl) ev_c (by omega) (by omega)) ?_
    refine a_v rfl (s_move (ev_t rfl)) ?_
    refine a_nil ?_
    exact ⟨4 - (i + 1), by omega, i + 1, _, rfl, by omega, rfl, ⟨rfl, rfl, trivial⟩, rfl, by rw [hf', hb]; rfl⟩
  repeat first | refine thenA_x ?_ | refine blockA_hit ?_ | refine blockA_x (by decide) ?_
  refine a_seq (a_region ?_)
  refine a_v rfl (s_assign ev_c) ?_
  refine a_v rfl (s_assign ev_c) ?_
  refine a_nil ?_
  have hi4 : i = 4 := by simp at hc; omega
  subst hi4
  refine a_ret ?_
  exact ⟨[_, _], V, ⟨_, _, rfl, ev_t rfl, _, _, rfl, ev_t rfl, rfl⟩, View.le_self_set nb1, by rw [hf]; rfl, rfl⟩
/-- The closure that goes through charges. -/
abbrev wayF (b3 b2 : Nat) : AVal := .v (.func (.func 66) #[] #[.pointer (some ⟨b3, 0, none⟩), .pointer (some ⟨b2, 0, none⟩)])
theorem bk_way0 (U : Nat → Int) (cs : Ch) (V : View) : ACalls Try.prog 42 [.agg (ints (four U)), .tree 2 (chs cs)] V fun x V' => ∃ b2 b3, V b2 = none ∧ b3 ≠ b2 ∧ V b3 = none ∧
    x = wayF b3 b2 ∧ V' = (V.set b2 (.row (ints (four U)))).set b3 (.row [.tree 2 (chs cs)]) := by
  refine a_fn (fn := Try.f42) Try.func42 rfl ?_ rfl
  refine a_seq (a_region ?_)
  refine a_vp rfl (s_box (ev_t rfl) rfl) fun x V' hx => ?_
  obtain ⟨b2, nb2, rfl, rfl⟩ := hx
  refine a_vp rfl (s_box (ev_t rfl) rfl) fun x V' hx => ?_
  obtain ⟨b3, nb3, rfl, rfl⟩ := hx
  refine a_v rfl (s_assign ev_c) ?_
  refine a_nil ?_
  refine a_seq (a_region ?_)
  refine a_v rfl (s_makeFunc (us := []) (vs := [_, _]) rfl ⟨_, _, rfl, ev_t rfl, _, _, rfl, ev_t rfl, rfl⟩) ?_
  refine a_v rfl (s_assign (ev_t rfl)) ?_
  refine a_nil ?_
  have n3 := View.set_none.1 nb3
  refine a_ret ?_
  exact ⟨[_], _, ⟨_, _, rfl, ev_t rfl, rfl⟩, View.le_refl _, b2, b3, nb2, n3.1, n3.2, rfl, rfl⟩
theorem bk_way {cs : Ch} {U : Nat → Int} {L b3 b2 : Nat} {V : View} {Post : View → Prop} (K : Nat → View → Prop) (D : Nat → Prop) (hcs : okC cs) (hU : small U)
    (hK : ∀ i V V', (∀ c, D c → V' c = V c) → K i V → K i V') (hD : ∀ i V, K i V → ∀ c, D c → V c ≠ none) (hD2 : ¬ D b2) (hD3 : ¬ D b3) (h32 : b3 ≠ b2)
    (h3 : V b3 = some (.row [.tree 2 (chs cs)])) (h2 : V b2 = some (.row (ints (four U)))) (hV : K 0 V)
    (hy : ∀ i V, i < cs.length → K i V → V b3 = some (.row [.tree 2 (chs cs)]) → V b2 = some (.row (ints (four (run U cs (i + 1))))) →
      AYield Try.prog L [iv i, .agg (ints (four (run U cs (i + 1))))] V fun x V' => V' b3 = some (.row [.tree 2 (chs cs)]) ∧ V' b2 = some (.row (ints (four (run U cs (i + 1))))) ∧
        ∃ r : Bool, x = .v (.bool r) ∧ (r = true → K (i + 1) V') ∧ (r = false → Post V'))
    (hend : ∀ V, K cs.length V → Post V) : ACalls Try.prog 66 [.v (.func (.yield L) #[] #[]), pt b3 0, pt b2 0] V fun _ V' => Post V' := by
  have hlen := hcs.1
  refine a_fn (fn := Try.f66) Try.func66 rfl ?_ rfl
  refine a_seq (a_region ?_)
  refine a_v rfl (s_load Try.sh50 (ev_t rfl) h3 rfl) ?_
  refine a_v rfl (s_lent Try.us50 (ev_t rfl)) ?_
  refine a_v rfl (s_move ev_c) ?_
  refine a_nil ?_
  refine a_block ?_
  refine a_loop (fun n st V' => ∃ (i : Nat) (l : List (Nat × AVal)), n = cs.length - i ∧ i ≤ cs.length ∧ st = ⟨l, 27⟩ ∧
    SubT [(8, iv i), (7, iv (chs cs).length), (6, .tree 2 (chs cs)), (2, pt b2 0), (1, pt b3 0), (0, .v (.func (.yield L) #[] #[]))] l ∧
    V' b3 = some (.row [.tree 2 (chs cs)]) ∧ V' b2 = some (.row (ints (four (run U cs i)))) ∧ K i V') ?_ cs.length _ _ ⟨0, _, rfl, by omega, rfl, ⟨rfl, rfl, rfl, rfl, rfl, rfl, trivial⟩, h3, h2, hV⟩
  rintro n st V' ⟨i, l, rfl, hi, rfl, hs, g3, g2, hKi⟩
  refine a_forget hs ?_
  refine a_seq (a_region ?_)
  refine a_v rfl (s_cmp (ev_t rfl) (ev_t rfl) rfl) ?_
  refine a_nil ?_
  refine a_seq (a_cond (ev_t rfl) (fun hc => a_skip ?_) (fun hc => a_exit ?_))
  · have hi' : i < cs.length := by simp [chs_len] at hc; omega
    have hk := hcs.get hi'
    have hsm := run_small hU hcs i (by omega) (cs[i]).1
    refine a_seq (a_block ?_)
    refine a_seq (a_region ?_)
    refine a_v rfl (s_move (ev_t rfl)) ?_
    refine a_v rfl (s_idxt Try.sl50 (ev_t rfl) (ev_t rfl) (by omega) (chs_get hi')) ?_
    refine a_v rfl (s_loadr Try.sh52 rfl (ev_t rfl) (ref2 _ _)) ?_
    refine a_vp rfl (s_alloc Try.z52) fun x V' hx => ?_
    obtain ⟨b5, nb5, rfl, rfl⟩ := hx
    refine a_v rfl (s_assign (ev_t rfl)) ?_
    refine a_s (s_store Try.sh52 (ev_t rfl) (ev_t rfl) (View.set_same _ _ _) rfl rfl (by first | decide | simp)) ?_
    refine a_nil ?_
    have e53 : ¬ b5 = b3 := by rintro rfl; rw [g3] at nb5; cases nb5
    have e52 : ¬ b5 = b2 := by rintro rfl; rw [g2] at nb5; cases nb5
    have e35 : ¬ b3 = b5 := fun h => e53 h.symm
    have e25 : ¬ b2 = b5 := fun h => e52 h.symm
    have e32 : ¬ b3 = b2 := h32
    have e23 : ¬ b2 = b3 := fun h => h32 h.symm
    refine a_seq (a_draw [false, false, false, false, false, false, false, false, true] (_) Try.mixed rfl rfl (View.le_refl _) ?_)
    refine d_v (fun V' hU => f_plain rfl (s_fieldAddr Try.f52_0 rfl (ev_o rfl rfl))) ?_
    refine d_v (fun V' hU => f_plain rfl (s_load Try.sh3 (ev_o rfl rfl) (hU _ _ (by simp [View.set, g3, g2, e53, e52, e35, e25, e32, e23] <;> first | exact ⟨rfl, rfl⟩ | exact rfl)) rfl)) ?_
    refine d_v (fun V' hU => f_plain rfl (s_idxa Try.ar24 (ev_o rfl rfl) (ev_o rfl rfl) (by omega) (by omega))) ?_
    refine d_v (fun V' hU => f_plain rfl (s_load Try.sh3 (ev_o rfl rfl) (hU _ _ (by simp [View.set, g3, g2, e53, e52, e35, e25, e32, e23] <;> first | exact ⟨rfl, rfl⟩ | exact rfl)) (rd4 hk.1 (by simp)))) ?_
    refine d_v (fun V' hU => f_plain rfl (s_fieldAddr Try.f52_1 rfl (ev_o rfl rfl))) ?_
    refine d_v (fun V' hU => f_plain rfl (s_load Try.sh3 (ev_o rfl rfl) (hU _ _ (by simp [View.set, g3, g2, e53, e52, e35, e25, e32, e23] <;> first | exact ⟨rfl, rfl⟩ | exact rfl)) rfl)) ?_
    refine d_v (fun V' hU => f_plain rfl (s_add (ev_o rfl rfl) (ev_o rfl rfl) (by omega) (by omega))) ?_
    refine d_v (fun V' hU => f_plain rfl (s_idxa Try.ar24 (ev_o rfl rfl) (ev_o rfl rfl) (by omega) (by omega))) ?_
    first | refine d_b (s_storew Try.sh3 (ev_o rfl rfl) (ev_o rfl rfl) (by simp [View.set, g3, g2, e53, e52, e35, e25, e32, e23] <;> first | exact ⟨rfl, rfl⟩ | exact rfl) rfl rfl (by simp [ints, four]; omega) ((wr4 hk.1 (by simp)).trans (congrArg (fun f => ints (four f)) (run_succ hi').symm))) rfl _ (View.le_refl _) ?_ | refine d_e (s_storew Try.sh3 (ev_o rfl rfl) (ev_o rfl rfl) (by simp [View.set, g3, g2, e53, e52, e35, e25, e32, e23] <;> first | exact ⟨rfl, rfl⟩ | exact rfl) rfl rfl (by simp [ints, four]; omega) ((wr4 hk.1 (by simp)).trans (congrArg (fun f => ints (four f)) (run_succ hi').symm))) (by first | exact View.le_refl _ | assumption) ?_
    refine d_nil ?_
    refine a_seq (a_region ?_)
    refine a_v rfl (s_move (ev_t rfl)) ?_
    refine a_v rfl (s_move (ev_t rfl)) ?_
    refine a_v rfl (s_load Try.sh24 (ev_t rfl) (by simp [View.set, g3, g2, e53, e52, e35, e25, e32, e23] <;> first | exact ⟨rfl, rfl⟩ | exact rfl) rdA) ?_
    refine a_vp rfl (s_yield (ev_t rfl) (.cons (ev_t rfl) (.cons (ev_t rfl) .nil)) (hy _ _ hi' (hK _ V' _ (fun c hc => by have h1 : ¬ c = b5 := (by rintro rfl; exact hD _ _ hKi _ hc nb5); have h2 : ¬ c = b2 := (by rintro rfl; exact hD2 hc); simp [View.set, h1, h2]) hKi) (by simp [View.set, g3, e35, e32]) (View.set_same _ _ _))) fun x V' hx => ?_
    obtain ⟨q3, q2, r, rfl, hT, hF⟩ := hx
    refine a_v rfl (s_not (ev_t rfl)) ?_
    refine a_nil ?_
    refine a_cond (ev_t rfl) (fun hc => a_ret ?_) (fun hc => a_skip ?_)
    · exact ⟨[], _, rfl, View.le_refl _, hF (by simpa using hc)⟩
    refine a_region ?_
    refine a_v rfl (s_add (ev_t rfl) ev_c (by omega) (by omega)) ?_
    refine a_v rfl (s_move (ev_t rfl)) ?_
    refine a_nil ?_
    exact ⟨cs.length - (i + 1), by omega, i + 1, _, rfl, by omega, rfl, ⟨rfl, rfl, rfl, rfl, rfl, rfl, trivial⟩, q3, q2, hT (by simpa using hc)⟩
  repeat first | refine thenA_x ?_ | refine blockA_hit ?_ | refine blockA_x (by decide) ?_
  have hi4 : i = cs.length := by simp [chs_len] at hc; omega
  subst hi4
  exact ⟨[], _, rfl, View.le_refl _, hend _ hKi⟩
end Go.Proofs
