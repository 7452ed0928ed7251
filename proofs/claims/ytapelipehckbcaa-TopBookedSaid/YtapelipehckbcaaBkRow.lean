/- Proved here: for every input, TopBooked answers true, and each argument reads afterwards as it read before: no condition besides the row's own. -/
import Derived.Test.YtapelipehckbcaaRows
import Derived.Test.YtapelipehckbcaaBkF
import Derived.Test.YtapelipehckbcaaAvR
import Derived.WalkKit
import Derived.ProofKit
import Derived.OpenShut
import Derived.Deep.SlicePairs
set_option linter.unusedVariables false
set_option linter.unusedSimpArgs false
namespace Go.Proofs.Ytapelipehckbcaa.topBooked
open Go.ChangeShapes Go.WideShapes Go.ChangeAt Go.RowKit Go.AV

theorem own : ownKnob Try.prog.godebug = none := by kernel_rfl

theorem un22 : Try.prog.underlying 22 = some (.array 4 5) := by kernel_rfl
theorem un23 : Try.prog.underlying 23 = some (.slice 29) := by kernel_rfl
theorem un4 : Try.prog.underlying 4 = some .bool := by kernel_rfl
theorem c22 : Try.prog.cellsOf 22 = 4 := by kernel_rfl
theorem c5 : Try.prog.cellsOf 5 = 1 := by kernel_rfl
theorem c29 : Try.prog.cellsOf 29 = 2 := by kernel_rfl
theorem noEmpty0 : (List.range Try.prog.types.size).all (tyOK Try.prog Try.prog.types.size) = true := by kernel_rfl
theorem inTable : (Try.f3.params.toList.all fun t => Nat.blt t Try.prog.types.size) = true := by kernel_rfl

variable {H : Type} {enc : TypeId × Value → H}
theorem wf8 {n : Int} (h : (Lit.int .u8 n).wf = true) : 0 ≤ n ∧ n ≤ 255 := by
  simp [Lit.wf, IntKind.min, IntKind.max, IntKind.signed, IntKind.bits] at h; omega
theorem wfi8 {n : Int} (h : (Lit.int .i8 n).wf = true) : -128 ≤ n ∧ n ≤ 127 := by
  simp [Lit.wf, IntKind.min, IntKind.max, IntKind.signed, IntKind.bits] at h; omega

set_option maxRecDepth 100000 in
theorem open_limits {W : World} {b : Nat} {v : Value} {d : DataW H} {p : List MemPlace} (hval : Value.okWide Try.prog W .any b 22 v) (h : DataW.Trod enc Try.prog W 0 (fun _ => true) true 22 v d p) :
    ∃ nn, ok8 nn ∧ v = .agg ⟨(four nn).map (.int .u8)⟩ := by
  unfold Value.okWide at hval
  rw [un22] at hval
  obtain ⟨cs, rfl, hsz, _⟩ := hval
  rw [c22] at hsz
  obtain ⟨fuel, hf⟩ := h
  obtain ⟨xs, m, rfl, _, _, hxl, he⟩ := DataW.trod_array un22 hf
  have get : ∀ i, i < 4 → ∃ n : Int, cs[i]? = some (.int .u8 n) ∧ 0 ≤ n ∧ n ≤ 255 := by
    intro i hi
    have h1 := he i hi
    rw [List.getElem?_eq_getElem (by omega), c5] at h1
    obtain ⟨n, hn, _, hw⟩ := DataW.trod_int Try.ui5 h1
    refine ⟨n, ?_, wf8 hw⟩
    have hlt : i < cs.toList.length := by simp; omega
    simp only [Value.cells, Nat.mul_one] at hn
    rw [List.drop_eq_getElem_cons hlt] at hn
    simp at hn
    rw [Array.getElem?_eq_getElem (by omega), hn]
  obtain ⟨n0, h0, g0⟩ := get 0 (by omega)
  obtain ⟨n1, h1, g1⟩ := get 1 (by omega)
  obtain ⟨n2, h2, g2⟩ := get 2 (by omega)
  obtain ⟨n3, h3, g3⟩ := get 3 (by omega)
  refine ⟨fun k => match k with | 0 => n0 | 1 => n1 | 2 => n2 | 3 => n3 | _ => 0, fun k => ?_, ?_⟩
  · match k with
    | 0 => exact g0
    | 1 => exact g1
    | 2 => exact g2
    | 3 => exact g3
    | _ + 4 => exact ⟨by simp, by simp⟩
  · refine congrArg Value.agg (Array.ext_getElem? ?_)
    intro i
    by_cases hi : i < 4
    · match i, hi with
      | 0, _ => rw [h0]; rfl
      | 1, _ => rw [h1]; rfl
      | 2, _ => rw [h2]; rfl
      | 3, _ => rw [h3]; rfl
    · rw [Array.getElem?_eq_none (by omega), Array.getElem?_eq_none (by simp [four]; omega)]

theorem TrE_of_get {m : Imm} {sz : Nat} : ∀ {xs : List AVal} {l : List Value}, (∀ i x, xs[i]? = some x → ∃ v r, l.drop (i * sz) = v.cells.toList ++ r ∧ v.cells.size = sz ∧ Tr m x v) → TrE m sz xs l
  | [], _, _ => trivial
  | x :: xs, l, h => by
    obtain ⟨v, r, h1, h2, h3⟩ := h 0 x (by simp)
    simp at h1
    refine ⟨v, r, h1, h2, h3, TrE_of_get fun i y hy => ?_⟩
    obtain ⟨u, r', g1, g2, g3⟩ := h (i + 1) y (by simpa using hy)
    refine ⟨u, r', ?_, g2, g3⟩
    rw [← g1, h1, show (i + 1) * sz = v.cells.toList.length + i * sz by simp [h2, Nat.add_mul]; omega, List.drop_append]
    simp

set_option maxRecDepth 100000 in
theorem open_charges {W : World} {b : Nat} {v : Value} {d : DataW H} {p : List MemPlace} (hval : Value.okWide Try.prog W .any b 23 v) (h : DataW.Trod enc Try.prog W 0 (fun _ => true) true 23 v d p) :
    ∃ ls, okE ls ∧ Tr (imm0 W) (.tree 2 (els ls)) v := by
  obtain ⟨a, len, cap, rfl⟩ := okWide_slice un23 hval
  obtain ⟨fuel, hf⟩ := h
  have he : ∃ f0 f1, Try.prog.underlying 29 = some (.struct #[f0, f1]) ∧ f0.offset = 0 ∧ f1.offset = 1 ∧ f0.type = 5 ∧ f1.type = 27 := ⟨_, _, Try.underlying29, rfl, rfl, rfl, rfl⟩
  obtain ⟨f0, f1, he, o0, o1, t0, t1⟩ := he
  rcases Go.Deep.open_slice_pairs un23 he c29 o0 o1 (by rw [t0]; exact c5) (by rw [t1]; kernel_rfl) hf with ⟨hcs, _⟩ | ⟨a', len', cap', m, n, V0, V1, D0, D1, P0, P1, hcs, _, hl, hm, hmm, _, hc⟩
  · simp [Value.cells] at hcs
    obtain ⟨rfl, rfl, rfl⟩ := hcs
    exact ⟨[], (fun c hc => by cases hc), by simp only [Tr]; exact ⟨none, 0, rfl, Nat.zero_le _, .inl rfl⟩⟩
  · simp [Value.cells] at hcs
    obtain ⟨rfl, rfl, rfl⟩ := hcs
    simp only [if_true] at hmm
    subst hmm
    have each : ∀ i, i < len → ∃ c : Nat × Int, (c.1 ≤ 255 ∧ -128 ≤ c.2 ∧ c.2 ≤ 127) ∧ V0 i = .int .u8 c.1 ∧ V1 i = .int .i8 c.2 := by
      intro i hi
      obtain ⟨_, _, g0, g1⟩ := hc i (by omega)
      rw [t0] at g0; rw [t1] at g1
      obtain ⟨k, hk, _, wk⟩ := DataW.trod_int Try.ui5 g0
      obtain ⟨q, hq, _, wq⟩ := DataW.trod_int Try.ui27 g1
      have := wf8 wk
      exact ⟨(k.toNat, q), ⟨by simp only; omega, wfi8 wq⟩, by simp at hk; rw [hk]; congr 1; simp; omega, by simpa using hq⟩
    obtain ⟨C, hC⟩ := Go.Deep.choose_lt each
    refine ⟨(List.range len).map C, fun c hc' => ?_, ?_⟩
    · obtain ⟨i, hi, rfl⟩ := List.mem_map.1 hc'
      exact (hC i (List.mem_range.1 hi)).1
    · simp only [Tr]
      refine ⟨some a', m, by simp [els], by simp [els]; omega, ?_⟩
      by_cases h0 : len = 0
      · left; simp [els, h0]
      · right
        have hcell := (hc 0 (by omega)).1
        obtain ⟨bb, off, spot⟩ := a'
        have hspot : spot = none := by
          unfold World.cell? at hcell
          split at hcell
          · split at hcell
            · cases hcell
            · rename_i hs; simpa [Addr.add] using hs
          · cases hcell
        subst hspot
        have hblk : ∃ c T fr, W.heap[bb]? = some (.cells c T fr) := by
          unfold World.cell? at hcell
          split at hcell
          · rename_i c T fr hh; exact ⟨c, T, fr, by simpa [Addr.add] using hh⟩
          · cases hcell
        obtain ⟨c, T, fr, hh⟩ := hblk
        refine ⟨bb, off, c.toList, rfl, imm0_of hh, TrE_of_get fun i x hx => ?_⟩
        have hi : i < len := by
          have := (List.getElem?_eq_some_iff.1 hx).1
          simpa [els] using this
        obtain ⟨g0, g1, _, _⟩ := hc i (by omega)
        rw [addr_add, cell_row hh] at g0
        have e1 : (⟨bb, off, none⟩ : Addr).add (i * 2 + 1) = ⟨bb, off + (i * 2 + 1), none⟩ := addr_add _ _ _
        rw [e1, cell_row hh] at g1
        obtain ⟨_, k0, k1⟩ := hC i hi
        have hx' : x = .agg [.v (.int .u8 (C i).1), .v (.int .i8 (C i).2)] := by
          simp [els, hi] at hx; exact hx.symm
        subst hx'
        have l0 : c.toList[off + i * 2]? = some (V0 i) := by simpa using g0
        have l1 : c.toList[off + i * 2 + 1]? = some (V1 i) := by rw [Nat.add_assoc]; simpa using g1
        refine ⟨.agg #[V0 i, V1 i], c.toList.drop (off + i * 2 + 2), ?_, rfl, ?_⟩
        · rw [List.drop_drop]
          obtain ⟨q0, r0⟩ := List.getElem?_eq_some_iff.1 l0
          obtain ⟨q1, r1⟩ := List.getElem?_eq_some_iff.1 l1
          rw [List.drop_eq_getElem_cons q0, List.drop_eq_getElem_cons q1, r0, r1]
          rfl
        · simp only [Tr, TrL]
          exact ⟨_, rfl, _, _, rfl, by rw [k0], _, _, rfl, by rw [k1], rfl⟩

set_option maxRecDepth 100000 in
theorem lifted (os : Os) (started : os.Started) (H : Type) (enc : TypeId × Value → H) :
    ReturnsInHanded {} Try.checked os 3 .any (Rows.topBookedSpec.pre6 enc Try.prog Try.f3 Rows.topBookedRow.domain false) (Rows.topBookedSpec.post enc Try.prog Try.f3 false true false false) := by
  refine returnsInHanded_of_change (C := Try.checked) own started (by kernel_rfl) Try.func3
    (ChangeSpec.witness6 (enc := enc) (C := Try.checked) false ⟨#[], #[.agg #[.int .u8 0, .int .u8 0, .int .u8 0, .int .u8 0], .slice none 0 0], []⟩ 8 (by kernel_rfl) (by kernel_rfl) (by kernel_rfl) (by kernel_rfl)) ?_
  intro W base args ds gs before hval0 hW hcnd _
  have hval : ∀ (j : Nat) t v, Try.f3.params[j]? = some t → args[j]? = some v → Value.okWide Try.prog W .any base t v := hval0
  have hW' := hW
  obtain ⟨p, q, hA0, hV, rfl, hfz, hnd⟩ := hW
  have hA : DataW.TrodAll enc Try.prog W 0 (fun _ => true) true Try.f3.params.toList args.toList ds p := hA0
  have hA1 := hA
  rw [Try.params3] at hA hval
  obtain ⟨v0, vs0, d0, ds0, p0, q0, hargs, rfl, rfl, h0, r0⟩ := trodAll_cons hA
  obtain ⟨v1, vs1, d1, ds1, p1, q1, rfl, rfl, rfl, h1, r1⟩ := trodAll_cons r0
  obtain ⟨rfl, rfl, rfl⟩ := trodAll_nil r1
  obtain rfl : args = #[v0, v1] := by cases args; simp_all
  obtain ⟨rfl, rfl⟩ := trodVars_none hV
  obtain ⟨nn, hn, rfl⟩ := open_limits (hval 0 22 v0 rfl rfl) h0
  obtain ⟨ls, hl, hv1⟩ := open_charges (hval 1 23 v1 rfl rfl) h1
  have hT : TrL (imm0 W) [.agg (u8s (four nn)), .tree 2 (els ls)] [.agg ⟨(four nn).map (.int .u8)⟩, v1] :=
    ⟨_, _, rfl, by simp only [Tr]; exact ⟨_, rfl, TrL_exact _ ((four nn).map (.int .u8))⟩, _, _, rfl, hv1, rfl⟩
  refine (calls_of_A (bk_top hn hl V0) hT (u := .bool true) (fun x V' h => h.1)).mono fun e W' ⟨he, hg, hb⟩ => ?_
  subst he
  refine ⟨_, rfl, post_of_same (pa := p0 ++ (p1 ++ [])) (pv := []) hW' (fun _ _ _ => trodAll_cons_mk (shut_bool un4 _) trodAll_mk0) (fun sp hs => trodAll_grow (tyOK_of noEmpty0) hb inTable hA1 (fun x hx => hs x (by simpa using hx))) (fun _ _ => rfl) (by simp)
    (hg.frame _) hg.2.1 (ok_one (by kernel_rfl) rfl (okWide_bool_mk un4 _))⟩

theorem over : Rows.topBookedRow.holds Try.pinned (OpenSpec.ofChange Rows.topBookedSpec) :=
  OpenClaim.holds_of_wide 3 Try.f3 rfl rfl rfl rfl rfl rfl rfl ⟨rfl, rfl, rfl, rfl, rfl⟩ rfl rfl rfl rfl rfl (by kernel_rfl) Try.func3 (by kernel_rfl)
    (of_decide_eq_true (by kernel_rfl)) (by unfold Func.isWrapper; first | (rw [if_pos (by decide +kernel)]; kernel_rfl) | (rw [if_neg (by decide +kernel)]; exact ⟨rfl, rfl⟩))
    (fun os started H enc _ => lifted os started H enc)

theorem proved : Rows.TopBookedSaid := over
#print axioms proved
end Go.Proofs.Ytapelipehckbcaa.topBooked
