/- The abstract view: parts of slices that never change. -/
import Derived.Test.YtapelipehckbcaaAvN
import Derived.Laws.BytesString
set_option linter.unusedSimpArgs false
namespace Go.AV
variable {ρ : Option Nat} {P : Program} {Q : AQ} {st : ASt} {V : View}
  {d : Option Tmp} {ty : TypeId} {pos : String} {aft : Array Edge} {gd : Option (Nat × Bool)}

/-- A bound of a part: none, or a number. -/
def Bnd (st : ASt) (y : Option Operand) (dflt n : Nat) : Prop :=
  match y with
  | none => n = dflt
  | some y => ∃ k, Ev st y (.v (.int k n))
theorem bnd_t {y : Operand} {k : IntKind} {i : Int} {n dflt : Nat} (h : Ev st y (.v (.int k i))) (e : i = n) : Bnd st (some y) dflt n := ⟨k, e ▸ h⟩

theorem run_sliceBounds {w : World} {a : Act} {isS : Bool} {len cap l h : Nat} {lo hi : Option Operand} {m : Imm} (q : TmpsOK m st a.tmps) (hl : Bnd st lo 0 l) (hh : Bnd st hi len h) (h1 : l ≤ h) (h2 : h ≤ cap) :
    (Instr.sliceBounds isS len cap (lo.map a.eval) (hi.map a.eval) none).run P w = .ok (l, h, cap) w := by
  have ev : ∀ {y : Operand} {k : IntKind} {n : Nat}, Ev st y (.v (.int k n)) → a.eval y = .int k n := fun he => by simpa [Tr] using he m a q
  have sb : ∀ {k : IntKind} {n c : Nat} {b : BoundsCode}, n ≤ c → (Instr.sliceBound (.int k n) c b).run P w = .ok n w := by
    intro k n c b hn
    have : (n : Int) ≤ c := by omega
    simp [Instr.sliceBound, asIntOf, Sem.run_bind, Result.andThen, this]
  unfold Instr.sliceBounds
  cases hi with
  | none =>
    simp only [Bnd] at hh; subst hh
    cases lo with
    | none => simp only [Bnd] at hl; subst hl; simp
    | some y => obtain ⟨k, hy⟩ := hl; simp [ev hy, sb h1, Sem.run_bind, Result.andThen]
  | some z =>
    obtain ⟨k', hz⟩ := hh
    cases lo with
    | none => simp only [Bnd] at hl; subst hl; simp [ev hz, sb h2, Sem.run_bind, Result.andThen]
    | some y => obtain ⟨k, hy⟩ := hl; simp [ev hy, ev hz, sb h1, sb h2, Sem.run_bind, Result.andThen]

theorem s_slicet {t e : TypeId} {g : Bool} {sz l h : Nat} {y : Operand} {lo hi : Option Operand} {xs : List AVal} (ht : sliOf P t = some (e, g, sz)) (hy : Ev st y (.tree sz xs))
    (hl : Bnd st lo 0 l) (hh : Bnd st hi xs.length h) (h1 : l ≤ h) (h2 : h ≤ xs.length) : OpS ρ P ⟨d, .slice t y lo hi none, ty, pos, aft, gd⟩ st V (One (.tree sz ((xs.take h).drop l)) V) :=
  opS_pure (by intro c h; cases h) fun m a w s q => by
    obtain ⟨hu, hs⟩ := sliOf_info ht
    have hv := hy m a q
    simp only [Tr] at hv
    obtain ⟨ad, cap, he, hc, hr⟩ := hv
    have hb := run_sliceBounds (P := P) (w := w) (isS := true) (cap := cap) q hl hh h1 (by omega)
    refine ⟨.slice (if cap = l then ad else ad.map (·.add (l * sz))) (h - l) (cap - l), w, ?_, rfl, ?_⟩
    · simp [execOp, he, Instr.sliceAt, Instr.slice, run_underlying hu, Sem.run_bind, Result.andThen, hb, (run_isAgg_shp hs w).2]
    · simp only [Tr]
      have hlen : ((xs.take h).drop l).length = h - l := by simp [Nat.min_eq_left h2]
      refine ⟨_, cap - l, by rw [hlen], by rw [hlen]; omega, ?_⟩
      by_cases hz : h - l = 0
      · left; rw [hlen]; exact hz
      · right
        rcases hr with hr | ⟨b, off, cs, ea, hm, hE⟩
        · omega
        · rw [if_neg (by omega), ea]
          refine ⟨b, off + l * sz, cs, by simp [addr_add], hm, ?_⟩
          rw [← List.drop_drop]
          have key : ∀ (l : Nat) (xs : List AVal) (vs : List Value), TrE m sz xs vs → TrE m sz (xs.drop l) (vs.drop (l * sz)) := by
            intro l
            induction l with
            | zero => intro xs vs h; simpa using h
            | succ l ih =>
              intro xs vs h
              cases xs with
              | nil => simp [TrE]
              | cons x xs =>
                simp only [TrE] at h
                obtain ⟨v, r, rfl, hz', hv, k⟩ := h
                have e : (v.cells.toList ++ r).drop ((l + 1) * sz) = r.drop (l * sz) := by
                  rw [show (l + 1) * sz = v.cells.toList.length + l * sz by simp [hz', Nat.add_mul]; omega, List.drop_append]
                  simp
                rw [e]; simpa using ih xs r k
          have tk : ∀ (h : Nat) (xs : List AVal) (vs : List Value), TrE m sz xs vs → TrE m sz (xs.take h) vs := by
            intro h
            induction h with
            | zero => intro xs vs _; simp [TrE]
            | succ h ih =>
              intro xs vs hx
              cases xs with
              | nil => simp [TrE]
              | cons x xs =>
                simp only [TrE, List.take_succ_cons] at hx ⊢
                obtain ⟨v, r, e, hz', hv, k⟩ := hx
                exact ⟨v, r, e, hz', hv, ih xs r k⟩
          exact key l _ _ (tk h _ _ hE)

/-- Bytes, as one sees them. -/
def byT (l : List UInt8) : List AVal := l.map fun b => .v (.int .u8 (b.toNat : Int))
theorem byT_good (l : List UInt8) : (byT l).all (fun x => x.good && Nat.beq x.cells.length 1) = true := by
  simp [byT, AVal.good, AVal.one, AVal.cells, Value.oneCell']
theorem byT_cells (l : List UInt8) : (byT l).flatMap AVal.cells = (l.map fun b => Value.int .u8 (b.toNat : Int)).map .v := by
  induction l with
  | nil => rfl
  | cons b l ih =>
    simp only [byT, List.map_cons, List.flatMap_cons, AVal.cells, List.cons_append, List.nil_append] at ih ⊢
    exact congrArg _ ih
theorem fold_push : ∀ (l : List UInt8) (s : ByteArray), (l.map fun b => (b.toNat : Int)).foldl (fun r n => r.push (UInt8.ofNat n.toNat)) s = ⟨s.data ++ l.toArray⟩
  | [], s => by cases s; simp
  | b :: l, s => by
    simp only [List.map_cons, List.foldl_cons]
    rw [fold_push l]
    congr 1
    simp [ByteArray.push]
theorem TrL_vals {m : Imm} : ∀ {us vs : List Value}, TrL m (us.map .v) vs → vs = us
  | [], vs, h => by simpa [TrL] using h
  | u :: us, vs, h => by
    simp only [List.map_cons, TrL] at h
    obtain ⟨v, r, rfl, hv, hr⟩ := h
    simp only [Tr] at hv
    rw [hv, TrL_vals hr]
theorem run_b2s {src dst e : TypeId} {u : Value} {bs : List UInt8} {m : Imm} {w : World} (s : Sat m V w) (hs : P.underlying src = some (.slice e)) (he : P.underlying e = some (.int .u8)) (hd : P.underlying dst = some .string) (hv : Tr m (.tree 1 (byT bs)) u) :
    (convert src dst u).run P w = .ok (.string ⟨bs.toArray⟩) w := by
    simp only [Tr] at hv
    obtain ⟨ad, cap, hev, hc, hr⟩ := hv
    have hlen : (byT bs).length = bs.length := by simp [byT]
    have conv : (convert src dst (.slice ad bs.length cap)).run P w = (Conv.bytesToString (.slice ad bs.length cap)).run P w := by
      cases ad <;> simp [convert, run_underlying hs, run_underlying hd, run_underlying he, Sem.run_bind, Result.andThen]
    have main0 : bs = [] ∨ bs ≠ [] := by cases bs <;> simp
    have main : (Conv.bytesToString (.slice ad bs.length cap)).run P w = .ok (.string ⟨bs.toArray⟩) w := by
      rcases main0 with rfl | hne
      · cases ad with
        | none => simp [Conv.bytesToString]; rfl
        | some p =>
          have := run_bytesToString (P := P) w p 0 cap [] (by simp [loadCells, loadCellsFrom])
          exact this
      have hpos : 0 < bs.length := List.length_pos_iff.2 hne
      rcases hr with h0 | ⟨b, off, cs, rfl, hm, hE⟩
      · omega
      · obtain ⟨_, c, T, fr, r, hh, hcc⟩ := s.imm b cs hm
        obtain ⟨hle, hT⟩ := TrE.cells hE (byT_good bs)
        rw [byT_cells] at hT
        have hvals := TrL_vals hT
        rw [hlen, Nat.mul_one] at hle hvals
        have hl := run_loadCells_imm (P := P) (off := off) (n := bs.length) hh hcc (by rw [List.length_drop] at hle; rcases Nat.lt_or_ge cs.length off with h' | h' <;> omega)
        rw [hvals] at hl
        have := run_bytesToString (P := P) w ⟨b, off, none⟩ bs.length cap (bs.map fun b => (b.toNat : Int)) (by rw [hl]; simp)
        rw [this, fold_push]
        simp
    rw [hev, hlen, conv, main]
theorem s_b2s {src dst e : TypeId} {y : Operand} {bs : List UInt8} (hs : P.underlying src = some (.slice e)) (he : P.underlying e = some (.int .u8)) (hd : P.underlying dst = some .string) (hy : Ev st y (.tree 1 (byT bs))) :
    OpS ρ P ⟨d, .convert src dst y, ty, pos, aft, gd⟩ st V (One (.v (.string ⟨bs.toArray⟩)) V) :=
  opS_pure (by intro c h; cases h) fun m a w s q => by
    refine ⟨.string ⟨bs.toArray⟩, w, ?_, rfl, by simp [Tr]⟩
    simp [execOp, run_b2s s hs he hd (hy m a q), Sem.run_bind, Result.andThen]
theorem s_streq {op : BinOp} {t t' : TypeId} {y z : Operand} {a b : ByteArray} {r : Bool} (hy : Ev st y (.v (.string a))) (hz : Ev st z (.v (.string b))) (hr : op = .eql ∧ r = (a == b) ∨ op = .neq ∧ r = (a != b)) :
    OpS ρ P ⟨d, .binOp op t y z t', ty, pos, aft, gd⟩ st V (One (.v (.bool r)) V) :=
  opS_pure (by intro c h; cases h) fun m ac w s q => by
    have hv : ac.eval y = .string a := by simpa [Tr] using hy m ac q
    have hi : ac.eval z = .string b := by simpa [Tr] using hz m ac q
    refine ⟨.bool r, w, ?_, rfl, by simp [Tr]⟩
    rcases hr with ⟨rfl, rfl⟩ | ⟨rfl, rfl⟩ <;> simp [execOp, hv, hi, eqGuard, binOp, Op.stringOp, Sem.run_bind, Result.andThen, bne, beq_toListBytes]
theorem s_shr {t t' : TypeId} {y z : Operand} {k k' : IntKind} {i j : Int} (hy : Ev st y (.v (.int k i))) (hz : Ev st z (.v (.int k' j))) (hj : 0 ≤ j) :
    OpS ρ P ⟨d, .binOp .shr t y z t', ty, pos, aft, gd⟩ st V (One (.v (.int k (i.fdiv (2 ^ min j.toNat k.bits)))) V) :=
  opS_pure (by intro c h; cases h) fun m a w s q => by
    have hv : a.eval y = .int k i := by simpa [Tr] using hy m a q
    have hi : a.eval z = .int k' j := by simpa [Tr] using hz m a q
    exact ⟨.int k (i.fdiv (2 ^ min j.toNat k.bits)), w, by simp [execOp, hv, hi, eqGuard, binOp, Op.shift, Int.not_lt.2 hj, Sem.run_bind, Result.andThen], rfl, by simp [Tr]⟩
theorem s_shl {t t' : TypeId} {y z : Operand} {k k' : IntKind} {i j : Int} (hy : Ev st y (.v (.int k i))) (hz : Ev st z (.v (.int k' j))) (hj : 0 ≤ j) :
    OpS ρ P ⟨d, .binOp .shl t y z t', ty, pos, aft, gd⟩ st V (One (.v (.int k (k.wrap (i * 2 ^ min j.toNat k.bits)))) V) :=
  opS_pure (by intro c h; cases h) fun m a w s q => by
    have hv : a.eval y = .int k i := by simpa [Tr] using hy m a q
    have hi : a.eval z = .int k' j := by simpa [Tr] using hz m a q
    exact ⟨.int k (k.wrap (i * 2 ^ min j.toNat k.bits)), w, by simp [execOp, hv, hi, eqGuard, binOp, Op.shift, Int.not_lt.2 hj, Sem.run_bind, Result.andThen], rfl, by simp [Tr]⟩
/-- A bitwise operation on two numbers of one kind. -/
def bitsOf (op : BinOp) (k : IntKind) (i j : Int) : Option Int :=
  match op with
  | .and => some (k.wrap ((BitVec.ofInt k.bits i &&& BitVec.ofInt k.bits j).toNat))
  | .or => some (k.wrap ((BitVec.ofInt k.bits i ||| BitVec.ofInt k.bits j).toNat))
  | .xor => some (k.wrap ((BitVec.ofInt k.bits i ^^^ BitVec.ofInt k.bits j).toNat))
  | _ => none
theorem s_bits {op : BinOp} {t t' : TypeId} {y z : Operand} {k : IntKind} {i j r : Int} (hy : Ev st y (.v (.int k i))) (hz : Ev st z (.v (.int k j))) (hr : bitsOf op k i j = some r) :
    OpS ρ P ⟨d, .binOp op t y z t', ty, pos, aft, gd⟩ st V (One (.v (.int k r)) V) :=
  opS_pure (by intro c h; cases h) fun m a w s q => by
    have hv : a.eval y = .int k i := by simpa [Tr] using hy m a q
    have hi : a.eval z = .int k j := by simpa [Tr] using hz m a q
    refine ⟨.int k r, w, ?_, rfl, by simp [Tr]⟩
    cases op <;> simp only [bitsOf, Option.some.injEq, reduceCtorEq] at hr <;> subst hr <;> simp [execOp, hv, hi, eqGuard, binOp, Op.intBits, Sem.run_bind, Result.andThen]
theorem s_min {t t' : TypeId} {y z : Operand} {k : IntKind} {i j : Int} (hy : Ev st y (.v (.int k i))) (hz : Ev st z (.v (.int k j))) :
    OpS ρ P ⟨d, .call ⟨.builtin .min, #[y, z], #[t, t']⟩, ty, pos, aft, gd⟩ st V (One (.v (.int k (min i j))) V) :=
  opS_pure (by intro c h; cases h) fun m a w s q => by
    have hv : a.eval y = .int k i := by simpa [Tr] using hy m a q
    have hi : a.eval z = .int k j := by simpa [Tr] using hz m a q
    have e : (if j < i then j else i) = min i j := by split <;> omega
    exact ⟨.int k (if j < i then j else i), w, by simp [execOp, resolve, invoke, builtin, hv, hi, Builtin.min_, Builtin.min2, Sem.run_bind, Result.andThen], rfl, by simp only [Tr, e]⟩
theorem zeros_eq {z : Value} {sz n : Nat} (hsz : z.cells.size = sz) (len : Nat) (hn : n = len * sz) :
    ((Array.range n).map fun i => (if n = 0 then (#[] : Array Value) else z.cells)[i % (if n = 0 then (#[] : Array Value) else z.cells).size]!) = ⟨zeros z len⟩ := by
  subst hn
  by_cases h0 : len * sz = 0
  · have : zeros z len = [] := by simp [zeros, hsz, h0]
    simp [h0, this]
  · simp only [h0, if_false]
    apply Array.ext'
    simp only [zeros, Array.toList_map, Array.toList_range, hsz]
    refine List.map_congr_left fun i hi => ?_
    have hpos : 0 < sz := by rcases Nat.eq_zero_or_pos sz with h | h; · subst h; simp at h0
                             · exact h
    have hlt : i % sz < z.cells.size := by rw [hsz]; exact Nat.mod_lt _ hpos
    rw [getElem!_pos z.cells (i % sz) hlt]
    simp [hlt]
/-- A new row of zeros. -/
theorem s_make {t e : TypeId} {g : Bool} {sz by_ : Nat} {y y' : Operand} {z : Value} {len : Nat} (ht : sliOf P t = some (e, g, sz)) (hz : zeroOf P e = some z) (hzs : z.cells.size = sz) (hby : bytesOf P e = some by_)
    (hy : Ev st y (.v (.int .i64 len))) (hy' : Ev st y' (.v (.int .i64 len))) (hle : by_ * len ≤ 281474976710656) (hl : len ≤ 281474976710656) :
    OpS ρ P ⟨d, .makeSlice t y y', ty, pos, aft, gd⟩ st V (NewSlice V len ((zeros z len).map .v) (some (zeros z len).length)) :=
  opS_of_run (by intro c h; cases h) fun m a w s q => by
    obtain ⟨hu, hs⟩ := sliOf_info ht
    obtain ⟨i, hi, rfl⟩ := bytesOf_info hby
    have hv : a.eval y = .int .i64 len := by simpa [Tr] using hy m a q
    have hv' : a.eval y' = .int .i64 len := by simpa [Tr] using hy' m a q
    have hti : ∀ w : World, (typeInfo e).run P w = .ok i w := fun w => by simp [typeInfo, Sem.run_bind, program, Sem.run, hi, Result.andThen]
    have hask : ∀ (k : Nat) (w : World), (askRoom k).run P w = .ok () w := by intro k w; unfold askRoom; split <;> simp [mark, Sem.run]
    have hw : IntKind.i64.wrap (len : Int) = len := wrap64_id (by omega) (by omega)
    have hok : AObj.OK m (.rown ((zeros z len).map .v) (some (zeros z len).length)) (.cells ⟨zeros z len⟩ e (0, 0)) := ⟨⟨zeros z len⟩, e, rfl, ⟨zeros z len, [], by simp, TrL_exact m _⟩, fun k hk => by cases hk; rfl⟩
    obtain ⟨s', f⟩ := s.alloc hok
    refine ⟨.value (.slice (some ⟨w.heap.size, 0, none⟩) len len), _, m, _, _, .slice (some ⟨w.heap.size, 0, none⟩) len len, ?_, .inl rfl, ⟨w.heap.size, s.fresh, rfl, rfl⟩, by simp [Tr], s', f⟩
    have hb1 : ¬ (281474976710656 : Int) < (i.bytes : Int) * (len : Int) := by
      rw [← Int.natCast_mul]; omega
    have hl0 : ¬ ((len : Int) < 0) := by omega
    have hzq := zeros_eq hzs len rfl
    by_cases h0 : len * sz = 0
    · simp only [h0, if_true] at hzq
      simp [execOp, hv, hv', Instr.makeSlice, run_underlying hu, asInt, asIntOf, hl0, Sem.run_bind, Result.andThen, hti, hw, hb1, hask, (run_isAgg_shp hs w).2, h0, newRow, run_newObj_alloc]
      rw [← hzq]; try simp
    · simp only [h0, if_false] at hzq
      simp [execOp, hv, hv', Instr.makeSlice, run_underlying hu, asInt, asIntOf, hl0, Sem.run_bind, Result.andThen, hti, hw, hb1, hask, (run_isAgg_shp hs w).2, h0, run_zeroOf hz, newRow, run_newObj_alloc]
      rw [← hzq]; try simp
/-- Copy into a row that one owns: as many elements as the source has, all of which fit. -/
theorem s_copy {t t' e : TypeId} {g : Bool} {sz b off n cap mm : Nat} {y z : Operand} {cs ycs : List AVal} {N : Option Nat} (ht : sliOf P t = some (e, g, sz)) (hy : Ev st y (.v (.slice (some ⟨b, off, none⟩) n cap)))
    (hb : V b = some (.rown cs N)) (hS : Src P st V z sz mm ycs) (hone : ycs.all AVal.one = true) (hmn : mm ≤ n) (hle : off + mm * sz ≤ cs.length) (hyl : ycs.length = mm * sz) :
    OpS ρ P ⟨d, .call ⟨.builtin .copy, #[y, z], #[t, t']⟩, ty, pos, aft, gd⟩ st V (One (.v (.int .i64 mm)) (V.set b (.rown (wrc cs off ycs) N))) :=
  opS_of_run (by intro c h; cases h) fun m a w s q => by
    obtain ⟨hu, hs⟩ := sliOf_info ht
    have hv : a.eval y = .slice (some ⟨b, off, none⟩) n cap := by simpa [Tr] using hy m a q
    obtain ⟨hlen, us, hus, hul, hf⟩ := hS m a w s q
    obtain ⟨o', ho, c, T, rfl, ⟨vs, r, hc, htl⟩, hN⟩ := s.obj b _ hb
    have hcl := htl.length
    have hone' := TrL.oneCells hus hone
    have hsize : c.size = vs.length + r.length := by have := congrArg List.length hc; simpa using this
    obtain ⟨w', c', hr, hsz, hn', hk, hq, hc'⟩ := run_storeCells_row P off us 0 w c ho (by omega) hone'
    have hsz' : c'.size = c.size := by
      have := congrArg List.length hc'
      simp only [List.length_append, List.length_take, List.length_drop, Array.length_toList] at this
      omega
    have hok : AObj.OK m (.rown (wrc cs off ycs) N) (.cells c' T (0, 0)) := by
      refine ⟨c', T, rfl, ⟨vs.take off ++ (us ++ vs.drop (off + ycs.length)), r, ?_, (htl.take off).append (hus.append (htl.drop _))⟩, fun k hk => by rw [hsz']; exact hN k hk⟩
      rw [hc', hc, hyl, ← hul]
      simp only [Nat.add_zero]
      rw [List.take_append_of_le_length (by omega), List.drop_append_of_le_length (by omega)]
      simp
    obtain ⟨s', f⟩ := s.put hb hok hsz hn' hk hq
    refine ⟨.value (.int .i64 mm), w', m, _, _, .int .i64 mm, ?_, .inl rfl, ⟨rfl, rfl⟩, by simp [Tr], s', f⟩
    have hmin : Nat.min mm n = mm := Nat.min_eq_left hmn
    simp [execOp, resolve, invoke, builtin, hv, Builtin.copy_, run_underlying hu, Sem.run_bind, Result.andThen, hlen, hmin, (run_isAgg_shp hs w).2, hf w rfl, hr, goInt]
#print axioms s_copy
#print axioms s_min
#print axioms s_bits
#print axioms s_streq
#print axioms s_b2s
#print axioms s_slicet
end Go.AV
