/- Proved here: for every input, TopFramed answers true, and each argument reads afterwards as it read before: no condition besides the row's own. -/
import Derived.Test.YtapelipehckbcaaRows
import Derived.Test.YtapelipehckbcaaFrO
import Derived.Test.YtapelipehckbcaaAvX
import Derived.WalkKit
import Derived.ProofKit
import Derived.OpenShut
import Derived.SizedLaws
set_option linter.unusedVariables false
set_option linter.unusedSimpArgs false
namespace Go.Proofs.Ytapelipehckbcaa.topFramed
open Go.ChangeShapes Go.WideShapes Go.ChangeAt Go.RowKit Go.AV

theorem own : ownKnob Try.prog.godebug = none := by kernel_rfl
theorem un4 : Try.prog.underlying 4 = some .bool := by kernel_rfl
theorem c5 : Try.prog.cellsOf 5 = 1 := by kernel_rfl
theorem c39 : Try.prog.cellsOf 39 = 1 := by kernel_rfl
theorem c42 : Try.prog.cellsOf 42 = 2 := by kernel_rfl
theorem c43 : Try.prog.cellsOf 43 = 1 := by kernel_rfl
theorem c45 : Try.prog.cellsOf 45 = 1 := by kernel_rfl
theorem b5 : Try.prog.bytesOf 5 = 1 := by kernel_rfl
theorem noEmpty0 : (List.range Try.prog.types.size).all (tyOK Try.prog Try.prog.types.size) = true := by kernel_rfl
theorem inTable : (Try.f5.params.toList.all fun t => Nat.blt t Try.prog.types.size) = true := by kernel_rfl

variable {H : Type} {enc : TypeId × Value → H}
theorem wf8 {n : Int} (h : (Lit.int .u8 n).wf = true) : 0 ≤ n ∧ n ≤ 255 := by
  simp [Lit.wf, IntKind.min, IntKind.max, IntKind.signed, IntKind.bits] at h; omega
theorem wf64 {n : Int} (h : (Lit.int .u64 n).wf = true) : 0 ≤ n ∧ n < 18446744073709551616 := by
  simp [Lit.wf, IntKind.min, IntKind.max, IntKind.signed, IntKind.bits] at h; omega
theorem elem_u8 {W : World} : ElemOK enc Try.prog W 5 (fun _ : UInt8 => True) (fun b => .v (.int .u8 (b.toNat : Int))) := by
  intro fuel cs x h
  obtain ⟨n, hn, u, h1, h2⟩ := elem_int Try.ui5 fuel cs x h
  have := wf8 hn
  refine ⟨UInt8.ofNat n.toNat, trivial, u, h1, ?_⟩
  have e : ((UInt8.ofNat n.toNat).toNat : Int) = n := by rw [UInt8.toNat_ofNat']; omega
  show Tr (imm0 W) (.v (.int .u8 ((UInt8.ofNat n.toNat).toNat : Int))) u
  rw [e]; exact h2
theorem elem_u64 {W : World} : ElemOK enc Try.prog W 45 (fun n : Nat => n < 18446744073709551616) uv := by
  intro fuel cs x h
  obtain ⟨n, hn, u, h1, h2⟩ := elem_int Try.ui45 fuel cs x h
  have := wf64 hn
  refine ⟨n.toNat, by omega, u, h1, ?_⟩
  have e : ((n.toNat : Nat) : Int) = n := by omega
  rw [show uv n.toNat = AVal.v (.int .u64 ((n.toNat : Nat) : Int)) from rfl, e]; exact h2
theorem elem_bytes {W : World} : ElemOK enc Try.prog W 39 (fun _ : List UInt8 => True) (fun b => .tree 1 (byT b)) := by
  intro fuel cs x h
  obtain ⟨l, _, r⟩ := elem_tree Try.us39 c5 (by decide) elem_u8 fuel cs x h
  exact ⟨l, trivial, r⟩
theorem elem_rec {W : World} : ElemOK enc Try.prog W 42 (fun _ : Rec => True) (fun r => .agg [.v (.int .u8 (r.1.toNat : Int)), .tree 1 (byT r.2)]) := by
  intro fuel cs x h
  have he : ∃ f0 f1, Try.prog.underlying 42 = some (.struct #[f0, f1]) ∧ f0.offset = 0 ∧ f1.offset = 1 ∧ f0.type = 5 ∧ f1.type = 39 := ⟨_, _, Try.underlying42, rfl, rfl, rfl, rfl⟩
  obtain ⟨f0, f1, he, o0, o1, t0, t1⟩ := he
  obtain ⟨y0, y1, n, hx, hlen, h0, h1⟩ := trod_struct2 he h
  rw [t0, o0, c5] at h0
  rw [t1, o1, c39] at h1
  rw [c42] at hlen
  match cs, hlen with
  | [a, b], _ =>
    obtain ⟨u, _, v0, e0, g0⟩ := elem_u8 _ _ _ h0
    obtain ⟨bs, _, v1, e1, g1⟩ := elem_bytes _ _ _ h1
    refine ⟨(u, bs), trivial, .agg #[a, b], rfl, ?_⟩
    have g0' : v0 = .int .u8 (u.toNat : Int) := by simpa [Tr] using g0
    have g1o := g1.oneCell (by rfl)
    simp only [Tr, TrL]
    refine ⟨[a, b], rfl, a, [b], rfl, ?_, b, [], rfl, ?_, rfl⟩
    · subst g0'
      simp [Value.cells] at e0
      exact e0.symm
    · have : v1 = b := by
        rw [cells_of_one g1o] at e1
        simpa using e1
      rw [← this]
      simpa [Tr] using g1
theorem elem_recs {W : World} : ElemOK enc Try.prog W 43 (fun _ : List Rec => True) (fun r => .tree 2 (recT r)) := by
  intro fuel cs x h
  obtain ⟨l, _, r⟩ := elem_tree Try.us43 c42 (by decide) elem_rec fuel cs x h
  exact ⟨l, trivial, r⟩

theorem open_arg {t e : TypeId} {α : Type} {good : α → Prop} {R : α → AVal} {sz : Nat} {W : World} {v : Value} {d : DataW H} {p : List MemPlace} (hu : Try.prog.underlying t = some (.slice e)) (hc : Try.prog.cellsOf e = sz) (h0 : 0 < sz)
    (hE : ElemOK enc Try.prog W e good R) (hv : v.oneCell' = true) (h : DataW.Trod enc Try.prog W 0 (fun _ => true) true t v d p) :
    ∃ l : List α, (∀ a ∈ l, good a) ∧ Tr (imm0 W) (.tree sz (l.map R)) v ∧ (d = .nil ∧ l = [] ∨ ∃ elems spare, d = .slice elems spare ∧ elems.length = l.length) := by
  obtain ⟨fuel, hf⟩ := h
  obtain ⟨l, hl, u, hu1, hu2, hT, hd⟩ := open_tree hu hc h0 hE hf
  rw [cells_of_one hv] at hu1
  simp at hu1
  subst hu1
  exact ⟨l, hl, hT, hd⟩

set_option maxRecDepth 100000 in
theorem lifted (os : Os) (started : os.Started) (H : Type) (enc : TypeId × Value → H) :
    ReturnsInHanded {} Try.checked os 5 .any (Rows.topFramedSpec.pre6 enc Try.prog Try.f5 Rows.topFramedRow.domain false) (Rows.topFramedSpec.post enc Try.prog Try.f5 false true false false) := by
  refine returnsInHanded_of_change_sized (C := Try.checked) own started (by kernel_rfl) Try.func5
    (ChangeSpec.witness6 (enc := enc) (C := Try.checked) false ⟨#[], #[.slice none 0 0, .slice none 0 0, .slice none 0 0, .bool false], []⟩ 8 (by kernel_rfl) (by kernel_rfl) (by kernel_rfl) (by kernel_rfl)) ?_
  intro W base args ds gs before hval0 hW hcnd hsz0 _
  have hval : ∀ (j : Nat) t v, Try.f5.params[j]? = some t → args[j]? = some v → Value.okWide Try.prog W .any base t v := hval0
  have hsz : (DataW.weightsEach Try.prog (Try.f5.params.toList ++ []) (ds ++ gs)).all (· ≤ reachBytes) = true := hsz0
  have hW' := hW
  obtain ⟨p, q, hA0, hV, rfl, hfz, hnd⟩ := hW
  have hA : DataW.TrodAll enc Try.prog W 0 (fun _ => true) true Try.f5.params.toList args.toList ds p := hA0
  have hA1 := hA
  rw [Try.params5] at hA hval hsz
  obtain ⟨v0, vs0, d0, ds0, p0, q0, hargs, rfl, rfl, h0, r0⟩ := trodAll_cons hA
  obtain ⟨v1, vs1, d1, ds1, p1, q1, rfl, rfl, rfl, h1, r1⟩ := trodAll_cons r0
  obtain ⟨v2, vs2, d2, ds2, p2, q2, rfl, rfl, rfl, h2, r2⟩ := trodAll_cons r1
  obtain ⟨v3, vs3, d3, ds3, p3, q3, rfl, rfl, rfl, h3, r3⟩ := trodAll_cons r2
  obtain ⟨rfl, rfl, rfl⟩ := trodAll_nil r3
  obtain rfl : args = #[v0, v1, v2, v3] := by cases args; simp_all
  obtain ⟨rfl, rfl⟩ := trodVars_none hV
  have one : ∀ (j : Nat) t e v, (#[38, 39, 40, 4] : Array TypeId)[j]? = some t → (#[v0, v1, v2, v3] : Array Value)[j]? = some v → Try.prog.underlying t = some (.slice e) → v.oneCell' = true := by
    intro j t e v hj hv hu
    obtain ⟨a, l, c, rfl⟩ := okWide_slice hu (hval j t v hj hv)
    rfl
  obtain ⟨l, _, hl, _⟩ := open_arg Try.us38 c43 (by decide) elem_recs (one 0 38 43 v0 rfl rfl Try.us38) h0
  obtain ⟨pieces, _, hpt, hpd⟩ := open_arg Try.us39 c5 (by decide) elem_u8 (one 1 39 5 v1 rfl rfl Try.us39) h1
  obtain ⟨ns, hns, hnt, _⟩ := open_arg Try.us40 c45 (by decide) elem_u64 (one 2 40 45 v2 rfl rfl Try.us40) h2
  have hpl : pieces.length ≤ 140737488355328 := by
    rcases hpd with ⟨_, rfl⟩ | ⟨elems, spare, rfl, hel⟩
    · simp
    · have := sized_slice hsz (j := 1) (t := 39) rfl rfl Try.us39
      rw [b5, Nat.mul_one, hel] at this
      have h2 : reachBytes ≤ 140737488355328 := by decide
      omega
  obtain ⟨fuel3, hf3⟩ := h3
  obtain ⟨b, hb3⟩ : ∃ b, v3 = .bool b := okWide_bool un4 (hval 3 4 v3 rfl rfl)
  subst hb3
  have hT : TrL (imm0 W) [.tree 1 (recsT l), .tree 1 (byT pieces), .tree 1 (uvs ns), bv b] [v0, v1, v2, .bool b] :=
    ⟨_, _, rfl, hl, _, _, rfl, hpt, _, _, rfl, hnt, _, _, rfl, by simp [Tr], rfl⟩
  refine (calls_of_A (fr_top hpl hns V0) hT (u := .bool true) (fun x V' h => h.1)).mono fun e W' ⟨he, hg, hb⟩ => ?_
  subst he
  refine ⟨_, rfl, post_of_same (pa := p0 ++ (p1 ++ (p2 ++ (p3 ++ [])))) (pv := []) hW' (fun _ _ _ => trodAll_cons_mk (shut_bool un4 _) trodAll_mk0) (fun sp hs => trodAll_grow (tyOK_of noEmpty0) hb inTable hA1 (fun x hx => hs x (by simpa using hx))) (fun _ _ => rfl) (by simp)
    (hg.frame _) hg.2.1 (ok_one (by kernel_rfl) rfl (okWide_bool_mk un4 _))⟩

theorem over : Rows.topFramedRow.holds Try.pinned (OpenSpec.ofChange Rows.topFramedSpec) :=
  OpenClaim.holds_of_wide 5 Try.f5 rfl rfl rfl rfl rfl rfl rfl ⟨rfl, rfl, rfl, rfl, rfl⟩ rfl rfl rfl rfl rfl (by kernel_rfl) Try.func5 (by kernel_rfl)
    (of_decide_eq_true (by kernel_rfl)) (by unfold Func.isWrapper; first | (rw [if_pos (by decide +kernel)]; kernel_rfl) | (rw [if_neg (by decide +kernel)]; exact ⟨rfl, rfl⟩))
    (fun os started H enc _ => lifted os started H enc)

theorem proved : Rows.TopFramedSaid := over
#print axioms proved
end Go.Proofs.Ytapelipehckbcaa.topFramed
