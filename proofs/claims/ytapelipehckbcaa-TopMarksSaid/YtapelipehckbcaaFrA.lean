/- Numbers as bytes: plain laws. -/
import Derived.Test.YtapelipehckbcaaAvS
namespace Go.AV
set_option linter.unusedVariables false

theorem ba_beq (a b : ByteArray) : (a == b) = (a.data == b.data) := by cases a; cases b; rfl
theorem ba_self (a : ByteArray) : (a == a) = true := by rw [ba_beq]; exact beq_self_eq_true _
theorem ba_nself (a : ByteArray) : (a != a) = false := by simp [bne, ba_self]
theorem u8w (n : Nat) : IntKind.u8.wrap (n : Int) = ((UInt8.ofNat n).toNat : Int) := by
  simp [IntKind.wrap, IntKind.bits, IntKind.signed, UInt8.toNat_ofNat']
theorem wrapu64 {i : Int} (h0 : 0 ≤ i) (h1 : i < 18446744073709551616) : IntKind.u64.wrap i = i := by
  simp [IntKind.wrap, IntKind.bits, IntKind.signed]; omega
theorem wrapu8 {i : Int} (h0 : 0 ≤ i) (h1 : i < 256) : IntKind.u8.wrap i = i := by
  simp [IntKind.wrap, IntKind.bits, IntKind.signed]; omega
theorem shr8 (n : Nat) : (n : Int).fdiv (2 ^ min (8 : Int).toNat IntKind.u64.bits) = ((n / 256 : Nat) : Int) := by
  have : (2 ^ min (8 : Int).toNat IntKind.u64.bits : Int) = 256 := by decide
  rw [this, Int.fdiv_eq_ediv_of_nonneg _ (by decide)]; rfl

variable {ρ : Option Nat} {P : Program} {Q : AQ} {st : ASt} {V : View} {o : Oper} {ops : Array Oper} {rest : List Oper}
  {d : Option Tmp} {ty : TypeId} {pos : String} {aft : Array Edge} {gd : Option (Nat × Bool)}
theorem s_convw {src dst : TypeId} {y : Operand} {k k' : IntKind} {i j : Int} (hs : ∃ e, P.underlying src = some e) (hd : P.underlying dst = some (.int k')) (hy : Ev st y (.v (.int k i))) (e : k'.wrap i = j) :
    OpS ρ P ⟨d, .convert src dst y, ty, pos, aft, gd⟩ st V (One (.v (.int k' j)) V) := e ▸ s_conv hs hd hy
theorem s_shrw {t t' : TypeId} {y z : Operand} {k k' : IntKind} {i j r : Int} (hy : Ev st y (.v (.int k i))) (hz : Ev st z (.v (.int k' j))) (hj : 0 ≤ j) (e : i.fdiv (2 ^ min j.toNat k.bits) = r) :
    OpS ρ P ⟨d, .binOp .shr t y z t', ty, pos, aft, gd⟩ st V (One (.v (.int k r)) V) := e ▸ s_shr hy hz hj

/-- The digits of a number, to the base of 256. -/
def digs (n : Nat) : List UInt8 := if h : n = 0 then [] else digs (n / 256) ++ [UInt8.ofNat n]
theorem digs_zero : digs 0 = [] := by rw [digs]; simp
theorem digs_pos {n : Nat} (h : 0 < n) : digs n = digs (n / 256) ++ [UInt8.ofNat n] := by rw [digs]; simp [Nat.ne_of_gt h]
theorem digs_len : ∀ (k n : Nat), n < 256 ^ k → (digs n).length ≤ k := by
  intro k
  induction k with
  | zero => intro n h; simp at h; subst h; simp [digs_zero]
  | succ k ih =>
    intro n h
    by_cases h0 : n = 0
    · subst h0; simp [digs_zero]
    · rw [digs_pos (by omega)]
      have := ih (n / 256) (by rw [Nat.div_lt_iff_lt_mul (by decide)]; rwa [Nat.pow_succ] at h)
      simp; omega
theorem digs_len8 {n : Nat} (h : n < 18446744073709551616) : (digs n).length ≤ 8 := digs_len 8 n (by simpa using h)
theorem digs_len2 {n : Nat} (h : n < 65536) : (digs n).length ≤ 2 := digs_len 2 n (by simpa using h)
/-- The form of a number. -/
def form (n : Nat) : List UInt8 := if n ≤ 246 then [UInt8.ofNat n] else UInt8.ofNat (246 + (digs n).length) :: digs n
theorem form_small {n : Nat} (h : n ≤ 246) : form n = [UInt8.ofNat n] := by simp [form, h]
theorem form_big {n : Nat} (h : 246 < n) : form n = UInt8.ofNat (246 + (digs n).length) :: digs n := by simp [form, Nat.not_le.2 h]
theorem form_len {n : Nat} (h : n < 18446744073709551616) : 1 ≤ (form n).length ∧ (form n).length ≤ 9 := by
  have := digs_len8 h
  unfold form; split <;> simp <;> omega
/-- Digits as a number. -/
def undig (l : List UInt8) : Nat := l.foldl (fun x d => x * 256 + d.toNat) 0
theorem undig_append (a : List UInt8) (d : UInt8) : undig (a ++ [d]) = undig a * 256 + d.toNat := by simp [undig]
theorem undig_digs : ∀ (n : Nat), undig (digs n) = n := by
  intro n
  induction n using Nat.strongRecOn with
  | _ n ih =>
    by_cases h : n = 0
    · subst h; simp [digs_zero, undig]
    · rw [digs_pos (by omega), undig_append, ih (n / 256) (by omega), UInt8.toNat_ofNat']
      omega
theorem digs_head : ∀ (n : Nat), 0 < n → ∃ d r, digs n = d :: r ∧ d ≠ 0 := by
  intro n
  induction n using Nat.strongRecOn with
  | _ n ih =>
    intro h
    rw [digs_pos h]
    by_cases h0 : n / 256 = 0
    · rw [h0, digs_zero]
      refine ⟨_, [], rfl, fun e => ?_⟩
      have := congrArg UInt8.toNat e
      rw [UInt8.toNat_ofNat'] at this
      simp at this; omega
    · obtain ⟨d, r, e, hd⟩ := ih (n / 256) (by omega) (by omega)
      exact ⟨d, r ++ [UInt8.ofNat n], by rw [e]; rfl, hd⟩
theorem batE {b : List UInt8} {j : Int} {i : Nat} (h : i < b.length) (e : j = i) : bat b j = ((b[i]).toNat : Int) := by
  subst e; simp [bat, h]
theorem shl8 {x : Nat} (h : x * 256 < 18446744073709551616) : IntKind.u64.wrap ((x : Int) * 2 ^ min (8 : Int).toNat IntKind.u64.bits) = ((x * 256 : Nat) : Int) := by
  have : (2 ^ min (8 : Int).toNat IntKind.u64.bits : Int) = 256 := by decide
  rw [this]; exact wrapu64 (by omega) (by omega)
theorem shl8i {x : Nat} (h : x * 256 < 9223372036854775808) : IntKind.i64.wrap ((x : Int) * 2 ^ min (8 : Int).toNat IntKind.i64.bits) = ((x * 256 : Nat) : Int) := by
  have : (2 ^ min (8 : Int).toNat IntKind.i64.bits : Int) = 256 := by decide
  rw [this]; exact wrap64_id (by omega) (by omega)
theorem s_shlw {t t' : TypeId} {y z : Operand} {k k' : IntKind} {i j r : Int} (hy : Ev st y (.v (.int k i))) (hz : Ev st z (.v (.int k' j))) (hj : 0 ≤ j) (e : k.wrap (i * 2 ^ min j.toNat k.bits) = r) :
    OpS ρ P ⟨d, .binOp .shl t y z t', ty, pos, aft, gd⟩ st V (One (.v (.int k r)) V) := e ▸ s_shl hy hz hj
theorem or256 (x d : Nat) (hd : d < 256) : (x * 256) ||| d = x * 256 + d := by
  have := Nat.shiftLeft_add_eq_or_of_lt (i := 8) (b := d) (by simpa using hd) x
  rw [Nat.shiftLeft_eq] at this
  simpa using this.symm
theorem or8 {x d : Nat} (hd : d < 256) (h : x * 256 + d < 18446744073709551616) : bitsOf .or .u64 ((x * 256 : Nat) : Int) (d : Int) = some ((x * 256 + d : Nat) : Int) := by
  have h1 : (BitVec.ofInt IntKind.u64.bits ((x * 256 : Nat) : Int)).toNat = x * 256 := by
    rw [BitVec.ofInt_natCast, BitVec.toNat_ofNat]; rw [show 2 ^ IntKind.u64.bits = 18446744073709551616 from rfl]; omega
  have h2 : (BitVec.ofInt IntKind.u64.bits (d : Int)).toNat = d := by
    rw [BitVec.ofInt_natCast, BitVec.toNat_ofNat]; rw [show 2 ^ IntKind.u64.bits = 18446744073709551616 from rfl]; omega
  simp only [bitsOf, BitVec.toNat_or, h1, h2, or256 x d hd]
  rw [wrapu64 (by omega) (by omega)]
theorem or8i {x d : Nat} (hd : d < 256) (h : x * 256 + d < 9223372036854775808) : bitsOf .or .i64 ((x * 256 : Nat) : Int) (d : Int) = some ((x * 256 + d : Nat) : Int) := by
  have h1 : (BitVec.ofInt IntKind.i64.bits ((x * 256 : Nat) : Int)).toNat = x * 256 := by
    rw [BitVec.ofInt_natCast, BitVec.toNat_ofNat]; rw [show 2 ^ IntKind.i64.bits = 18446744073709551616 from rfl]; omega
  have h2 : (BitVec.ofInt IntKind.i64.bits (d : Int)).toNat = d := by
    rw [BitVec.ofInt_natCast, BitVec.toNat_ofNat]; rw [show 2 ^ IntKind.i64.bits = 18446744073709551616 from rfl]; omega
  simp only [bitsOf, BitVec.toNat_or, h1, h2, or256 x d hd]
  rw [wrap64_id (by omega) (by omega)]
theorem undig_lt : ∀ (l : List UInt8) (k : Nat), l.length ≤ k → undig l < 256 ^ k := by
  intro l
  induction h : l.length generalizing l with
  | zero =>
    intro k _
    have : l = [] := List.length_eq_zero_iff.1 h
    subst this
    simpa [undig] using Nat.pow_pos (by decide)
  | succ n ih =>
    intro k hk
    have hne : l ≠ [] := by intro e; subst e; simp at h
    rw [← List.dropLast_concat_getLast hne, undig_append]
    obtain ⟨k, rfl⟩ : ∃ j, k = j + 1 := ⟨k - 1, by omega⟩
    have := ih l.dropLast (by simp [h]) k (by omega)
    have hd := (l.getLast hne).toNat_lt
    rw [Nat.pow_succ]; omega

/-- What Read answers, from where it reads on. -/
def readF (b : List UInt8) : Nat × Nat × Int :=
  match b with
  | [] => (0, 0, 10)
  | d :: r =>
    if d.toNat ≤ 246 then (d.toNat, 1, 0) else if d.toNat = 255 then (0, 0, 11) else
    if r.length < d.toNat - 246 then (0, 0, 10) else
    if r.headD 0 = 0 ∨ undig (r.take (d.toNat - 246)) ≤ 246 then (0, 0, 11) else (undig (r.take (d.toNat - 246)), d.toNat - 246 + 1, 0)
theorem readF_lt (b : List UInt8) : (readF b).1 < 18446744073709551616 := by
  unfold readF
  split
  · simp
  · rename_i d r
    have := d.toNat_lt
    split
    · omega
    · split
      · simp
      · split
        · simp
        · split
          · simp
          · have := undig_lt (r.take (d.toNat - 246)) 8 (by simp; omega)
            simpa using this
theorem readF_n (b : List UInt8) : (readF b).2.1 ≤ 9 ∧ (readF b).2.1 ≤ b.length ∧ ((readF b).2.2 = 0 → 0 < (readF b).2.1) := by
  unfold readF
  split
  · simp
  · rename_i d r
    have := d.toNat_lt
    split
    · simp
    · split
      · simp
      · split
        · simp
        · split
          · simp
          · simp; omega
theorem readF_form {x : Nat} (hx : x < 18446744073709551616) (rest : List UInt8) : readF (form x ++ rest) = (x, (form x).length, 0) := by
  rcases Nat.lt_or_ge 246 x with h | h
  · rw [form_big h]
    have h8 := digs_len8 hx
    have h1 : 1 ≤ (digs x).length := by rw [digs_pos (by omega)]; simp
    have ht : (UInt8.ofNat (246 + (digs x).length)).toNat = 246 + (digs x).length := by rw [UInt8.toNat_ofNat']; omega
    obtain ⟨d, r, e, hd⟩ := digs_head x (by omega)
    simp only [List.cons_append, readF, ht]
    rw [if_neg (by omega), if_neg (by omega), Nat.add_sub_cancel_left, List.take_left, undig_digs]
    have hh : (digs x ++ rest).headD 0 = d := by rw [e]; rfl
    rw [hh, if_neg (by simp), if_neg (by simp only [not_or]; exact ⟨hd, by omega⟩)]
    simp
  · rw [form_small h]
    have ht : (UInt8.ofNat x).toNat = x := by rw [UInt8.toNat_ofNat']; omega
    simp [readF, ht, h]
end Go.AV
