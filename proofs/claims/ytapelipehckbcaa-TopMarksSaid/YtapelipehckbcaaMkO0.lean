/- Cells with marks: what the test keeps beside the memory, in plain Lean. -/
import Derived.Test.YtapelipehckbcaaMkN
set_option linter.unusedVariables false
set_option linter.unusedSimpArgs false
set_option linter.unnecessarySimpa false
namespace Go.AV
variable {V V₀ V₁ V₂ W : View} {b : Nat} {n : Nat → Nat} {c base : Ce} {ss : List Ce}
theorem Mem.upd {k : Nat} {o o' : AObj} (h : Mem V b n c base ss V₁) (hk : V₁ k = some o) : Mem (V.set k o') b n c base ss (V₁.set k o') := by
  have h2 : Mem V b n c base ss (V₁.set k o) := by rwa [View.set_self hk]
  exact h2.rest
theorem memSwap {x : AVal} {sz k : Nat} {cs : List AVal} (h : Mem V b n c base ss V₁) (hA : Acc V₁ x sz k cs V₂) : ∃ V₁', Acc V x sz k cs V₁' ∧ Mem V₁' b n c base ss V₂ := by
  obtain ⟨xc, xm, L1, L2, h1, h2, hO⟩ := h
  obtain ⟨Lx, k1, k2⟩ := acc_part hA
  obtain ⟨V₁', q1, q2⟩ := k1.acc' ((hO.join k2).perm (L' := Lx ++ ((b, .row [bv true, xc, xm]) :: (L1 ++ L2))) List.perm_append_comm)
  exact ⟨V₁', q1, xc, xm, L1, L2, h1, h2, q2⟩
theorem memBack {x : AVal} {sz k : Nat} {cs : List AVal} (hA : Acc V x sz k cs V₁) (h : Mem V₁ b n c base ss V₂) : ∃ V₁' V₂', Mem V b n c base ss V₁' ∧ Acc V₁' x sz k cs V₂' ∧ V₂.le V₂' := by
  obtain ⟨xc, xm, L1, L2, h1, h2, hO⟩ := h
  obtain ⟨Lx, k1, k2⟩ := acc_part hA
  obtain ⟨V₁', q1, q2⟩ := ((k2.join hO).perm (L' := ((b, .row [bv true, xc, xm]) :: (L1 ++ L2)) ++ Lx) List.perm_append_comm).split
  obtain ⟨V₂', r1, r2⟩ := k1.acc q2
  exact ⟨V₁', V₂', ⟨xc, xm, L1, L2, h1, h2, q1⟩, r1, r2⟩
theorem loadR_err (n : Nat → Nat) (c c' : Ce) (k i : Int) : (loadR n c k i).2 = (loadR n c' k i).2 := by
  unfold loadR; split
  · rfl
  · split <;> rfl
def errR (n : Nat → Nat) (k i : Int) : Int := (loadR n Ce0 k i).2
theorem loadR_fst {n : Nat → Nat} {c : Ce} {k i : Int} (h : errR n k i ≠ 0) : (loadR n c k i).1 = 0 := by
  unfold errR loadR at h; unfold loadR
  split
  · rfl
  · rename_i h1
    rw [if_neg h1] at h
    split
    · rfl
    · rename_i h2; rw [if_neg h2] at h; simp at h
theorem errR_ok {n : Nat → Nat} {k i : Int} (h : errR n k i = 0) : ∃ o j : Nat, k = ((o + 1 : Nat) : Int) ∧ i = (j : Int) ∧ o < 3 ∧ j < n o := by
  unfold errR loadR at h
  split at h
  · simp at h
  · rename_i h1
    split at h
    · simp at h
    · rename_i h2
      refine ⟨(k - 1).toNat, i.toNat, by omega, by omega, by omega, by omega⟩
theorem errR_211 {n : Nat → Nat} {k i : Int} (h : k < 1 ∨ 3 < k) : errR n k i = 211 := by unfold errR; rw [loadR_211 h]
theorem errR_212 {n : Nat → Nat} {k i : Int} {o : Nat} (h : k = (o : Int) + 1) (ho : o < 3) (hi : i < 0 ∨ (n o : Int) ≤ i) : errR n k i = 212 := by unfold errR; rw [loadR_212 h ho hi]
theorem errR_0 {n : Nat → Nat} {k i : Int} {o j : Nat} (h : k = (o : Int) + 1) (ho : o < 3) (hi : i = (j : Int)) (hj : j < n o) : errR n k i = 0 := by unfold errR; rw [loadR_ok h ho hi hj]
theorem Zr.upd {n : Nat → Nat} {c : Ce} (h : Zr n c) {o i : Nat} (hi : i < n o) (v : Int) : Zr n (c.upd o i v) := by
  intro a j ha hj
  rw [Ce.upd_other _ _ (by rintro ⟨rfl, rfl⟩; omega)]
  exact h a j ha hj
theorem Zr0 (n : Nat → Nat) : Zr n Ce0 := fun _ _ _ _ => rfl
/-- One act: what is to be done, where, and with what. -/
structure Act56 where
  k : Nat
  o : Nat
  i : Nat
  v : Int
def Act56.ok (a : Act56) : Prop := a.k < 256 ∧ a.o < 256 ∧ a.i < 256 ∧ -128 ≤ a.v ∧ a.v < 128
abbrev u8v (n : Nat) : AVal := .v (.int .u8 (n : Int))
def actV (a : Act56) : AVal := .agg [u8v a.k, u8v a.o, u8v a.i, .v (.int .i8 a.v)]
def actT (l : List Act56) : List AVal := l.map actV
theorem actT_len (l : List Act56) : (actT l).length = l.length := by simp [actT]
theorem actT_get {l : List Act56} {j : Nat} (h : j < l.length) : (actT l)[((j : Nat) : Int).toNat]? = some (actV l[j]) := by simp [actT, h]
/-- How many marks are left. -/
def stepM (m : Nat) (a : Act56) : Nat := if a.k % 8 < 4 then m else if a.k % 8 < 6 then m + 1 else m - 1
def cntM (l : List Act56) : Nat := (l.take 40).foldl stepM 0
theorem cntM_step {l : List Act56} {j : Nat} (h : j < l.length) : (l.take (j + 1)).foldl stepM 0 = stepM ((l.take j).foldl stepM 0) l[j] := by
  rw [List.take_succ_eq_append_getElem h, List.foldl_append]; rfl
def snaps (ss : List Ce) : List AVal := ss.reverse.flatMap arrV
theorem snaps_cons (s : Ce) (ss : List Ce) : snaps (s :: ss) = snaps ss ++ arrV s := by simp [snaps]
theorem snaps_len (ss : List Ce) : (snaps ss).length = ss.length * 18 := by
  induction ss with
  | nil => rfl
  | cons s ss ih => rw [snaps_cons, List.length_append, ih, arrV_len]; simp; omega
theorem snaps_top (s : Ce) (ss : List Ce) (x : Int) (hx : x = (ss.length : Int)) : rdc true 18 (snaps (s :: ss)) (0 + x.toNat * 18) = some (.agg (arrV s)) := by
  subst hx
  have e : 0 + ((ss.length : Nat) : Int).toNat * 18 = (snaps ss).length := by rw [snaps_len]; omega
  rw [e, snaps_cons]
  simp only [rdc, if_true]
  rw [if_pos (by rw [List.length_append, arrV_len]; omega), List.drop_left' rfl]
  have : (arrV s).take 18 = arrV s := by rw [List.take_of_length_le]; rw [arrV_len]; omega
  rw [this]
theorem snaps_take (s : Ce) (ss : List Ce) : (snaps (s :: ss)).take (ss.length * 18) = snaps ss := by
  rw [snaps_cons, ← snaps_len, List.take_left' rfl]
theorem arr0 : arrV Ce0 = List.replicate 18 (iv 0) := rfl
#print axioms memBack
#print axioms snaps_top
end Go.AV
namespace Go.AV
theorem chgU_mem {s c : Ce} {n : Nat → Nat} {o i : Nat} {x : AVal} (h : x ∈ chgU s c n o i) : ∃ a b u v : Int, x = .agg ([Value.int .i64 a, .int .i64 b, .int .i64 u, .int .i64 v].map .v) := by
  have key : ∀ {o i : Nat}, chgCell s c o i = some x → ∃ a b u v : Int, x = .agg ([Value.int .i64 a, .int .i64 b, .int .i64 u, .int .i64 v].map .v) := by
    intro o i h
    unfold chgCell at h
    split at h
    · cases h; exact ⟨_, _, _, _, rfl⟩
    · cases h
  simp only [chgU, chgRow, List.mem_append, List.mem_flatMap, List.mem_filterMap] at h
  rcases h with ⟨a, _, j, _, h⟩ | ⟨j, _, h⟩ <;> exact key h
theorem chgU_get {s c : Ce} {n : Nat → Nat} {o i q : Nat} (h : q < (chgU s c n o i).length) : ∃ a b u v : Int, (chgU s c n o i)[((q : Nat) : Int).toNat]? = some (.agg ([Value.int .i64 a, .int .i64 b, .int .i64 u, .int .i64 v].map .v)) := by
  obtain ⟨a, b, u, v, e⟩ := chgU_mem (List.getElem_mem h)
  exact ⟨a, b, u, v, by rw [Int.toNat_natCast, List.getElem?_eq_getElem h, e]⟩
theorem two_get {x : AVal} {i : Nat} (h : i < 2) : [x, x][((i : Nat) : Int).toNat]? = some x := by
  have : i = 0 ∨ i = 1 := by omega
  rcases this with rfl | rfl <;> rfl
end Go.AV
