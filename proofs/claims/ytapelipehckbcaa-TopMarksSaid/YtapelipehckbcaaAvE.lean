/- Operations over the abstract view, third part: indexes, numbers, tuples, lengths, functions as values. -/
import Derived.Test.YtapelipehckbcaaAvD
namespace Go.AV
set_option linter.unusedVariables false

theorem TrE.get {m : Imm} {sz : Nat} : ∀ {xs : List AVal} {l : List Value}, TrE m sz xs l → ∀ {i : Nat} {x : AVal}, xs[i]? = some x → ∃ v r, l.drop (i * sz) = v.cells.toList ++ r ∧ v.cells.size = sz ∧ Tr m x v
  | [], l, _, i, x, hx => by simp at hx
  | y :: xs, l, h, i, x, hx => by
    simp only [TrE] at h
    obtain ⟨v, r, rfl, hz, hv, k⟩ := h
    cases i with
    | zero => simp at hx; subst hx; exact ⟨v, r, by simp, hz, hv⟩
    | succ i =>
      simp at hx
      obtain ⟨u, r', hd, hz', hu⟩ := TrE.get k hx
      refine ⟨u, r', ?_, hz', hu⟩
      rw [show (i + 1) * sz = v.cells.toList.length + i * sz by simp [hz]; rw [Nat.add_mul]; omega, ← List.drop_drop]
      simpa using hd

section
variable {ρ : Option Nat} {P : Program} {Q : AQ} {st : ASt} {V : View} {o : Oper} {ops : Array Oper} {rest : List Oper}
  {d : Option Tmp} {ty : TypeId} {pos : String} {aft : Array Edge} {gd : Option (Nat × Bool)}

theorem arrOf_info {t : TypeId} {n : Nat} {g : Bool} {sz : Nat} (h : arrOf P t = some (n, g, sz)) : ∃ e, P.underlying t = some (.array n e) ∧ shp P e = some (g, sz) := by
  unfold arrOf at h
  split at h
  · rename_i n' e hu
    cases hs : shp P e with
    | none => simp [hs] at h
    | some x =>
      simp only [hs, Option.map_some, Option.some.injEq, Prod.mk.injEq] at h
      obtain ⟨rfl, rfl⟩ := h
      exact ⟨e, hu, hs⟩
  · cases h
theorem sliOf_info {t e : TypeId} {g : Bool} {sz : Nat} (h : sliOf P t = some (e, g, sz)) : P.underlying t = some (.slice e) ∧ shp P e = some (g, sz) := by
  unfold sliOf at h
  split at h
  · rename_i e' hu
    cases hs : shp P e' with
    | none => simp [hs] at h
    | some x =>
      simp only [hs, Option.map_some, Option.some.injEq, Prod.mk.injEq] at h
      obtain ⟨rfl, rfl⟩ := h
      exact ⟨hu, hs⟩
  · cases h

theorem addr_add (b o n : Nat) : ((⟨b, o, none⟩ : Addr).add n) = ⟨b, o + n, none⟩ := by unfold Addr.add; split <;> simp_all

theorem run_indexAt_arr {t : TypeId} {len : Nat} {g : Bool} {sz b o : Nat} {k : IntKind} {i : Int} (h : arrOf P t = some (len, g, sz)) (h0 : 0 ≤ i) (h1 : i < len) (w : World) :
    (Instr.indexAt t (.pointer (some ⟨b, o, none⟩)) (.int k i)).run P w = .ok (.pointer (some ⟨b, o + i.toNat * sz, none⟩)) w := by
  obtain ⟨e, hu, hs⟩ := arrOf_info h
  unfold Instr.indexAt
  simp only [Sem.run_bind, asIntOf, Sem.run_pure, Result.andThen, run_underlying hu, Instr.sureAddr]
  by_cases hl : len ≤ 1 <;>
    simp [hl, Sem.run_bind, run_underlying hu, Result.andThen, h0, h1, (run_isAgg_shp hs w).2, addr_add]

theorem run_indexAt_sli {t e : TypeId} {len cap : Nat} {g : Bool} {sz b o : Nat} {k : IntKind} {i : Int} (h : sliOf P t = some (e, g, sz)) (h0 : 0 ≤ i) (h1 : i < len) (w : World) :
    (Instr.indexAt t (.slice (some ⟨b, o, none⟩) len cap) (.int k i)).run P w = .ok (.pointer (some ⟨b, o + i.toNat * sz, none⟩)) w := by
  obtain ⟨hu, hs⟩ := sliOf_info h
  unfold Instr.indexAt
  simp only [Sem.run_bind, asIntOf, Sem.run_pure, Result.andThen, run_underlying hu, Instr.sureAddr]
  by_cases hl : len ≤ 1 <;>
    simp [hl, Sem.run_bind, run_underlying hu, Result.andThen, h0, h1, (run_isAgg_shp hs w).2, addr_add]

theorem s_idxa {t : TypeId} {y z : Operand} {len : Nat} {g : Bool} {sz b o : Nat} {k : IntKind} {i : Int} (h : arrOf P t = some (len, g, sz))
    (hy : Ev st y (.v (.pointer (some ⟨b, o, none⟩)))) (hz : Ev st z (.v (.int k i))) (h0 : 0 ≤ i) (h1 : i < len) :
    OpS ρ P ⟨d, .indexAddr t y z, ty, pos, aft, gd⟩ st V (One (.v (.pointer (some ⟨b, o + i.toNat * sz, none⟩))) V) :=
  opS_pure (by intro c h; cases h) fun m a w s q => by
    have hv : a.eval y = .pointer (some ⟨b, o, none⟩) := by simpa [Tr] using hy m a q
    have hi : a.eval z = .int k i := by simpa [Tr] using hz m a q
    exact ⟨.pointer (some ⟨b, o + i.toNat * sz, none⟩), w, by simp only [execOp, hv, hi, Sem.run_bind, run_indexAt_arr h h0 h1, Result.andThen, Sem.run_pure], rfl, by simp [Tr]⟩

theorem s_idxs {t e : TypeId} {y z : Operand} {len cap : Nat} {g : Bool} {sz b o : Nat} {k : IntKind} {i : Int} (h : sliOf P t = some (e, g, sz))
    (hy : Ev st y (.v (.slice (some ⟨b, o, none⟩) len cap))) (hz : Ev st z (.v (.int k i))) (h0 : 0 ≤ i) (h1 : i < len) :
    OpS ρ P ⟨d, .indexAddr t y z, ty, pos, aft, gd⟩ st V (One (.v (.pointer (some ⟨b, o + i.toNat * sz, none⟩))) V) :=
  opS_pure (by intro c h; cases h) fun m a w s q => by
    have hv : a.eval y = .slice (some ⟨b, o, none⟩) len cap := by simpa [Tr] using hy m a q
    have hi : a.eval z = .int k i := by simpa [Tr] using hz m a q
    exact ⟨.pointer (some ⟨b, o + i.toNat * sz, none⟩), w, by simp only [execOp, hv, hi, Sem.run_bind, run_indexAt_sli h h0 h1, Result.andThen, Sem.run_pure], rfl, by simp [Tr]⟩

/-- An element of a tree: what is pointed to never changes. -/
theorem s_idxt {t e : TypeId} {y z : Operand} {g : Bool} {sz : Nat} {k : IntKind} {i : Int} {xs : List AVal} {x : AVal} (h : sliOf P t = some (e, g, sz))
    (hy : Ev st y (.tree sz xs)) (hz : Ev st z (.v (.int k i))) (h0 : 0 ≤ i) (hx : xs[i.toNat]? = some x) :
    OpS ρ P ⟨d, .indexAddr t y z, ty, pos, aft, gd⟩ st V (One (.ref x) V) :=
  opS_pure (by intro c h; cases h) fun m a w s q => by
    have hv := hy m a q
    have hi : a.eval z = .int k i := by simpa [Tr] using hz m a q
    have hlt := (List.getElem?_eq_some_iff.1 hx).1
    simp only [Tr] at hv
    obtain ⟨ad, cap, he, hc, hr⟩ := hv
    rcases hr with hr | ⟨b, off, cs, rfl, hm, hE⟩
    · omega
    · obtain ⟨v, r, hd, _, hv⟩ := hE.get hx
      refine ⟨.pointer (some ⟨b, off + i.toNat * sz, none⟩), w, by simp only [execOp, he, hi, Sem.run_bind, run_indexAt_sli h h0 (by omega : i < (xs.length : Nat)), Result.andThen, Sem.run_pure], rfl, ?_⟩
      simp only [Tr]
      exact ⟨b, off + i.toNat * sz, cs, v, r, rfl, hm, hv, by rw [← List.drop_drop]; exact hd⟩

/-- A cell, or cells, of an array that never changes. -/
theorem Tr.refPart {m : Imm} {b o : Nat} {ms r : List Value} {cs : List AVal} {vs : List Value} (hm : m b = some ms) (htl : TrL m cs vs) (hd : ms.drop o = vs ++ r) {g : Bool} {n off : Nat} {x : AVal}
    (hx : rdc g n cs off = some x) (hx1 : g = false → x.one = true) : Tr m (.ref x) (.pointer (some ⟨b, o + off, none⟩)) := by
  obtain ⟨u', hu', htu⟩ := rdc_rdv htl hx
  have hu'' := hu' []
  simp only [List.append_nil] at hu''
  have hd' : ms.drop (o + off) = vs.drop off ++ r := by
    rw [← List.drop_drop, hd]
    rw [List.drop_append_of_le_length]
    have := htl.length
    cases g with
    | true =>
      simp only [rdv, if_true] at hu''
      split at hu''
      · omega
      · cases hu''
    | false =>
      simp only [rdv, Bool.false_eq_true, if_false] at hu''
      have := (List.getElem?_eq_some_iff.1 hu'').1
      omega
  simp only [Tr]
  cases g with
  | true =>
    simp only [rdv, if_true] at hu''
    split at hu''
    · simp only [Option.some.injEq] at hu''
      subst hu''
      exact ⟨b, o + off, ms, _, (vs.drop off).drop n ++ r, rfl, hm, htu, by rw [hd']; simp only [Value.cells]; rw [← List.append_assoc, List.take_append_drop]⟩
    · cases hu''
  | false =>
    simp only [rdv, Bool.false_eq_true, if_false] at hu''
    have h1 := htu.oneCell (hx1 rfl)
    have hlt := (List.getElem?_eq_some_iff.1 hu'').1
    refine ⟨b, o + off, ms, u', vs.drop (off + 1) ++ r, rfl, hm, htu, ?_⟩
    rw [hd', cells_of_one h1, List.drop_eq_getElem_cons hlt]
    have := (List.getElem?_eq_some_iff.1 hu'').2
    simp [this]

theorem s_idxr {t : TypeId} {y z : Operand} {len : Nat} {g : Bool} {sz : Nat} {k : IntKind} {i : Int} {cs : List AVal} {x : AVal} (h : arrOf P t = some (len, g, sz))
    (hy : Ev st y (.ref (.agg cs))) (hz : Ev st z (.v (.int k i))) (h0 : 0 ≤ i) (h1 : i < len) (hx : rdc g sz cs (i.toNat * sz) = some x) (hx1 : g = false → x.one = true) :
    OpS ρ P ⟨d, .indexAddr t y z, ty, pos, aft, gd⟩ st V (One (.ref x) V) :=
  opS_pure (by intro c h; cases h) fun m a w s q => by
    have hv := hy m a q
    have hi : a.eval z = .int k i := by simpa [Tr] using hz m a q
    simp only [Tr] at hv
    obtain ⟨b, o, ms, u, r, he, hm, ⟨vs, rfl, htl⟩, hd⟩ := hv
    exact ⟨.pointer (some ⟨b, o + i.toNat * sz, none⟩), w, by simp only [execOp, he, hi, Sem.run_bind, run_indexAt_arr h h0 h1, Result.andThen, Sem.run_pure], rfl, Tr.refPart hm htl hd hx hx1⟩

theorem run_part {t : TypeId} {g : Bool} {n off : Nat} {vs : List Value} {u : Value} (hs : shp P t = some (g, n)) (hu : rdv g n vs off = some u) (w : World) : (part t ⟨vs⟩ off).run P w = .ok u w := by
  obtain ⟨h1, h2⟩ := run_isAgg_shp hs w
  unfold part
  simp only [Sem.run_bind, h1, Result.andThen]
  cases g with
  | false =>
    simp only [rdv, Bool.false_eq_true, if_false] at hu
    simp [hu]
  | true =>
    simp only [rdv, if_true] at hu
    split at hu
    · simp only [Option.some.injEq] at hu; subst hu
      simp [Sem.run_bind, h2, Result.andThen]
    · cases hu

theorem s_field {t : TypeId} {y : Operand} {i off n : Nat} {g : Bool} {cs : List AVal} {x : AVal} (h : fldOf P t i = some (off, g, n)) (hy : Ev st y (.agg cs)) (hx : rdc g n cs off = some x) :
    OpS ρ P ⟨d, .field t y i, ty, pos, aft, gd⟩ st V (One x V) :=
  opS_pure (by intro c h; cases h) fun m a w s q => by
    have hv := hy m a q
    simp only [Tr] at hv
    obtain ⟨vs, he, htl⟩ := hv
    obtain ⟨fs, f, hu, hf, rfl, hs⟩ := fldOf_info h
    obtain ⟨u, hu', htu⟩ := rdc_rdv htl hx
    have hu'' := hu' []
    simp only [List.append_nil] at hu''
    exact ⟨u, w, by simp only [execOp, he, Instr.field, Sem.run_bind, run_underlying hu, Result.andThen, hf, asAgg, Sem.run_pure, run_part hs hu''], rfl, htu⟩

theorem s_index {t : TypeId} {y z : Operand} {len : Nat} {g : Bool} {sz : Nat} {k : IntKind} {i : Int} {cs : List AVal} {x : AVal} (h : arrOf P t = some (len, g, sz))
    (hy : Ev st y (.agg cs)) (hz : Ev st z (.v (.int k i))) (h0 : 0 ≤ i) (h1 : i < len) (hx : rdc g sz cs (i.toNat * sz) = some x) :
    OpS ρ P ⟨d, .index t y z, ty, pos, aft, gd⟩ st V (One x V) :=
  opS_pure (by intro c h; cases h) fun m a w s q => by
    have hv := hy m a q
    have hi : a.eval z = .int k i := by simpa [Tr] using hz m a q
    simp only [Tr] at hv
    obtain ⟨vs, he, htl⟩ := hv
    obtain ⟨e, hu, hs⟩ := arrOf_info h
    obtain ⟨u, hu', htu⟩ := rdc_rdv htl hx
    have hu'' := hu' []
    simp only [List.append_nil] at hu''
    refine ⟨u, w, ?_, rfl, htu⟩
    simp only [execOp, he, hi, Instr.index, asIntOf, Sem.run_bind, Sem.run_pure, run_underlying hu, Result.andThen, if_pos (And.intro h0 h1), (run_isAgg_shp hs w).2, run_part hs hu'']

theorem s_indexs {t : TypeId} {y z : Operand} {k : IntKind} {i : Int} {s : ByteArray} {b : UInt8} (h : P.underlying t = some .string)
    (hy : Ev st y (.v (.string s))) (hz : Ev st z (.v (.int k i))) (h0 : 0 ≤ i) (h1 : s[i.toNat]? = some b) :
    OpS ρ P ⟨d, .index t y z, ty, pos, aft, gd⟩ st V (One (.v (.int .u8 b.toNat)) V) :=
  opS_pure (by intro c h; cases h) fun m a w S q => by
    have hv : a.eval y = .string s := by simpa [Tr] using hy m a q
    have hi : a.eval z = .int k i := by simpa [Tr] using hz m a q
    exact ⟨.int .u8 b.toNat, w, by simp [execOp, hv, hi, Instr.index, asIntOf, Sem.run_bind, run_underlying h, Result.andThen, h0, h1], rfl, by simp [Tr]⟩

theorem s_extract {y : Operand} {i : Nat} {cs : List AVal} {x : AVal} (hy : Ev st y (.tuple cs)) (hx : cs[i]? = some x) : OpS ρ P ⟨d, .extract y i, ty, pos, aft, gd⟩ st V (One x V) :=
  opS_pure (by intro c h; cases h) fun m a w s q => by
    have hv := hy m a q
    simp only [Tr] at hv
    obtain ⟨vs, he, htl⟩ := hv
    obtain ⟨u, hu, htu⟩ := htl.get hx
    exact ⟨u, w, by simp [execOp, he, Instr.extract, hu, Sem.run_bind, Result.andThen], rfl, htu⟩

/-! ### Numbers and truth -/
theorem s_cmp {op : BinOp} {t t' : TypeId} {y z : Operand} {k : IntKind} {i j : Int} {r : Bool} (hy : Ev st y (.v (.int k i))) (hz : Ev st z (.v (.int k j)))
    (hr : (match op with | .eql => some (i == j) | .neq => some (i != j) | .lss => some (decide (i < j)) | .leq => some (decide (i ≤ j)) | .gtr => some (decide (i > j)) | .geq => some (decide (i ≥ j)) | _ => none) = some r) :
    OpS ρ P ⟨d, .binOp op t y z t', ty, pos, aft, gd⟩ st V (One (.v (.bool r)) V) :=
  opS_pure (by intro c h; cases h) fun m a w s q => by
    have hv : a.eval y = .int k i := by simpa [Tr] using hy m a q
    have hi : a.eval z = .int k j := by simpa [Tr] using hz m a q
    refine ⟨.bool r, w, ?_, rfl, by simp [Tr]⟩
    cases op <;> simp at hr <;> subst hr <;> simp [execOp, hv, hi, eqGuard, binOp, Op.intCmp, Sem.run_bind, Result.andThen]

theorem s_arith {op : BinOp} {t t' : TypeId} {y z : Operand} {k : IntKind} {i j r : Int} (hy : Ev st y (.v (.int k i))) (hz : Ev st z (.v (.int k j)))
    (hr : (match op with | .add => some (k.wrap (i + j)) | .sub => some (k.wrap (i - j)) | .mul => some (k.wrap (i * j)) | _ => none) = some r) :
    OpS ρ P ⟨d, .binOp op t y z t', ty, pos, aft, gd⟩ st V (One (.v (.int k r)) V) :=
  opS_pure (by intro c h; cases h) fun m a w s q => by
    have hv : a.eval y = .int k i := by simpa [Tr] using hy m a q
    have hi : a.eval z = .int k j := by simpa [Tr] using hz m a q
    refine ⟨.int k r, w, ?_, rfl, by simp [Tr]⟩
    cases op <;> simp at hr <;> subst hr <;> simp [execOp, hv, hi, eqGuard, binOp, Op.intArith, Sem.run_bind, Result.andThen]

theorem wrap64_id {n : Int} (h0 : -9223372036854775808 ≤ n) (h1 : n ≤ 9223372036854775807) : IntKind.i64.wrap n = n := by
  have e : (2 : Int) ^ 64 = 18446744073709551616 := by decide
  have e' : (2 : Int) ^ 63 = 9223372036854775808 := by decide
  unfold IntKind.wrap
  simp only [IntKind.bits, IntKind.signed, Bool.true_and, decide_eq_true_eq, Nat.reduceSub, e, e']
  split <;> omega

/-- Sums and differences of ints that fit. -/
theorem s_add {t t' : TypeId} {y z : Operand} {i j : Int} (hy : Ev st y (.v (.int .i64 i))) (hz : Ev st z (.v (.int .i64 j))) (h0 : -9223372036854775808 ≤ i + j) (h1 : i + j ≤ 9223372036854775807) :
    OpS ρ P ⟨d, .binOp .add t y z t', ty, pos, aft, gd⟩ st V (One (.v (.int .i64 (i + j))) V) :=
  s_arith hy hz (by simp only [wrap64_id h0 h1])
theorem s_sub {t t' : TypeId} {y z : Operand} {i j : Int} (hy : Ev st y (.v (.int .i64 i))) (hz : Ev st z (.v (.int .i64 j))) (h0 : -9223372036854775808 ≤ i - j) (h1 : i - j ≤ 9223372036854775807) :
    OpS ρ P ⟨d, .binOp .sub t y z t', ty, pos, aft, gd⟩ st V (One (.v (.int .i64 (i - j))) V) :=
  s_arith hy hz (by simp only [wrap64_id h0 h1])

theorem s_not {t : TypeId} {y : Operand} {b : Bool} (hy : Ev st y (.v (.bool b))) : OpS ρ P ⟨d, .unOp .not t y, ty, pos, aft, gd⟩ st V (One (.v (.bool (!b))) V) :=
  opS_pure (by intro c h; cases h) fun m a w s q => by
    have hv : a.eval y = .bool b := by simpa [Tr] using hy m a q
    exact ⟨.bool (!b), w, by simp [execOp, hv, Op.unary, Sem.run_bind, Result.andThen], rfl, by simp [Tr]⟩
theorem s_neg {t : TypeId} {y : Operand} {k : IntKind} {i : Int} (hy : Ev st y (.v (.int k i))) : OpS ρ P ⟨d, .unOp .neg t y, ty, pos, aft, gd⟩ st V (One (.v (.int k (k.wrap (0 - i)))) V) :=
  opS_pure (by intro c h; cases h) fun m a w s q => by
    have hv : a.eval y = .int k i := by simpa [Tr] using hy m a q
    exact ⟨.int k (k.wrap (0 - i)), w, by simp [execOp, hv, Op.unary, Op.intArith, Sem.run_bind, Result.andThen], rfl, by simp [Tr]⟩

theorem s_conv {src dst : TypeId} {y : Operand} {k k' : IntKind} {i : Int} (hs : ∃ e, P.underlying src = some e) (hd : P.underlying dst = some (.int k')) (hy : Ev st y (.v (.int k i))) :
    OpS ρ P ⟨d, .convert src dst y, ty, pos, aft, gd⟩ st V (One (.v (.int k' (k'.wrap i))) V) :=
  opS_pure (by intro c h; cases h) fun m a w s q => by
    have hv : a.eval y = .int k i := by simpa [Tr] using hy m a q
    obtain ⟨e, he⟩ := hs
    refine ⟨.int k' (k'.wrap i), w, ?_, rfl, by simp [Tr]⟩
    simp only [execOp, hv, convert, Sem.run_bind, run_underlying he, run_underlying hd, Result.andThen]
    cases e <;> simp [Conv.intToInt, Sem.run_bind, Result.andThen]

theorem s_pick {c y z : Operand} {b : Bool} {x : AVal} (hc : Ev st c (.v (.bool b))) (hy : b = true → Ev st y x) (hz : b = false → Ev st z x) : OpS ρ P ⟨d, .pick c y z, ty, pos, aft, gd⟩ st V (One x V) :=
  opS_pure (by intro c h; cases h) fun m a w s q => by
    have hv : a.eval c = .bool b := by simpa [Tr] using hc m a q
    cases b with
    | true => exact ⟨a.eval y, w, by simp [execOp, hv, asBool, Sem.run_bind, Result.andThen], rfl, hy rfl m a q⟩
    | false => exact ⟨a.eval z, w, by simp [execOp, hv, asBool, Sem.run_bind, Result.andThen], rfl, hz rfl m a q⟩

/-! ### Lengths, functions as values -/
theorem s_lent {t e : TypeId} {y : Operand} {sz : Nat} {xs : List AVal} (h : P.underlying t = some (.slice e)) (hy : Ev st y (.tree sz xs)) :
    OpS ρ P ⟨d, .call ⟨.builtin .len, #[y], #[t]⟩, ty, pos, aft, gd⟩ st V (One (.v (.int .i64 xs.length)) V) :=
  opS_pure (by intro c h; cases h) fun m a w s q => by
    have hv := hy m a q
    simp only [Tr] at hv
    obtain ⟨ad, cap, he, _⟩ := hv
    exact ⟨.int .i64 xs.length, w, by simp [execOp, resolve, invoke, builtin, he, Builtin.len_, run_underlying h, Sem.run_bind, Result.andThen, goInt], rfl, by simp [Tr]⟩
theorem s_lens {t e : TypeId} {y : Operand} {ad : Option Addr} {n cap : Nat} (h : P.underlying t = some (.slice e)) (hy : Ev st y (.v (.slice ad n cap))) :
    OpS ρ P ⟨d, .call ⟨.builtin .len, #[y], #[t]⟩, ty, pos, aft, gd⟩ st V (One (.v (.int .i64 n)) V) :=
  opS_pure (by intro c h; cases h) fun m a w s q => by
    have hv : a.eval y = .slice ad n cap := by simpa [Tr] using hy m a q
    exact ⟨.int .i64 n, w, by simp [execOp, resolve, invoke, builtin, hv, Builtin.len_, run_underlying h, Sem.run_bind, Result.andThen, goInt], rfl, by simp [Tr]⟩
theorem s_lenstr {t : TypeId} {y : Operand} {s : ByteArray} (h : P.underlying t = some .string) (hy : Ev st y (.v (.string s))) :
    OpS ρ P ⟨d, .call ⟨.builtin .len, #[y], #[t]⟩, ty, pos, aft, gd⟩ st V (One (.v (.int .i64 s.size)) V) :=
  opS_pure (by intro c h; cases h) fun m a w S q => by
    have hv : a.eval y = .string s := by simpa [Tr] using hy m a q
    exact ⟨.int .i64 s.size, w, by simp [execOp, resolve, invoke, builtin, hv, Builtin.len_, run_underlying h, Sem.run_bind, Result.andThen, goInt], rfl, by simp [Tr]⟩

/-- Operands that are values as they are. -/
def EvX (st : ASt) : List Operand → List Value → Prop
  | [], us => us = []
  | y :: ys, us => ∃ u r, us = u :: r ∧ Ev st y (.v u) ∧ EvX st ys r
theorem EvX.map {m : Imm} {a : Act} (q : TmpsOK m st a.tmps) : ∀ {ys : List Operand} {us : List Value}, EvX st ys us → ys.map a.eval = us
  | [], us, h => by simp only [EvX] at h; simp [h]
  | y :: ys, us, h => by
    simp only [EvX] at h; obtain ⟨u, r, rfl, hy, k⟩ := h
    have : a.eval y = u := by simpa [Tr] using hy m a q
    simp [this, EvX.map q k]

theorem s_makeFunc {fn : Fn} {fs cs : List Operand} {us vs : List Value} (hf : EvX st fs us) (hc : EvX st cs vs) :
    OpS ρ P ⟨d, .makeFunc fn ⟨fs⟩ ⟨cs⟩, ty, pos, aft, gd⟩ st V (One (.v (.func fn ⟨us⟩ ⟨vs⟩)) V) :=
  opS_pure (by intro c h; cases h) fun m a w s q => by
    refine ⟨.func fn ⟨us⟩ ⟨vs⟩, w, ?_, rfl, by simp [Tr]⟩
    have h1 := hf.map q
    have h2 := hc.map q
    simp only [execOp, Instr.makeFunc, Sem.run_bind, Sem.run_pure, Result.andThen, List.map_toArray, h1, h2]

end
end Go.AV
