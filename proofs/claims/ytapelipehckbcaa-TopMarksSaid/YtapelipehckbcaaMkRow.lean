/- Proved here: for every input, TopMarks answers true, and each argument reads afterwards as it read before: no condition besides the row's own. -/
import Derived.Test.YtapelipehckbcaaRows
import Derived.Test.YtapelipehckbcaaMkP
import Derived.Test.YtapelipehckbcaaAvX
import Derived.WalkKit
import Derived.ProofKit
import Derived.OpenShut
import Derived.SizedLaws
set_option linter.unusedVariables false
set_option linter.unusedSimpArgs false
namespace Go.Proofs.Ytapelipehckbcaa.topMarks
open Go.ChangeShapes Go.WideShapes Go.ChangeAt Go.RowKit Go.AV

theorem own : ownKnob Try.prog.godebug = none := by kernel_rfl
theorem un4 : Try.prog.underlying 4 = some .bool := by kernel_rfl
theorem un31 : Try.prog.underlying 31 = some (.array 3 5) := by kernel_rfl
theorem ui27 : Try.prog.underlying 27 = some (.int .i8) := by kernel_rfl
theorem c5 : Try.prog.cellsOf 5 = 1 := by kernel_rfl
theorem c27 : Try.prog.cellsOf 27 = 1 := by kernel_rfl
theorem c31 : Try.prog.cellsOf 31 = 3 := by kernel_rfl
theorem c34 : Try.prog.cellsOf 34 = 4 := by kernel_rfl
theorem noEmpty0 : (List.range Try.prog.types.size).all (tyOK Try.prog Try.prog.types.size) = true := by kernel_rfl
theorem inTable : (Try.f4.params.toList.all fun t => Nat.blt t Try.prog.types.size) = true := by kernel_rfl

variable {H : Type} {enc : TypeId × Value → H}
theorem wf8 {n : Int} (h : (Lit.int .u8 n).wf = true) : 0 ≤ n ∧ n ≤ 255 := by
  simp [Lit.wf, IntKind.min, IntKind.max, IntKind.signed, IntKind.bits] at h; omega
theorem wfi8 {n : Int} (h : (Lit.int .i8 n).wf = true) : -128 ≤ n ∧ n ≤ 127 := by
  simp [Lit.wf, IntKind.min, IntKind.max, IntKind.signed, IntKind.bits] at h; omega
set_option maxRecDepth 100000 in
theorem open_plan {W : World} {b : Nat} {v : Value} {d : DataW H} {p : List MemPlace} (hval : Value.okWide Try.prog W .any b 31 v) (h : DataW.Trod enc Try.prog W 0 (fun _ => true) true 31 v d p) :
    ∃ q : Nat → Nat, (∀ o, q o < 256) ∧ v = .agg ⟨[.int .u8 (q 0 : Int), .int .u8 (q 1 : Int), .int .u8 (q 2 : Int)]⟩ := by
  unfold Value.okWide at hval
  rw [un31] at hval
  obtain ⟨cs, rfl, hsz, _⟩ := hval
  rw [c31] at hsz
  obtain ⟨fuel, hf⟩ := h
  obtain ⟨xs, m, rfl, _, _, hxl, he⟩ := DataW.trod_array un31 hf
  have get : ∀ i, i < 3 → ∃ n : Int, cs[i]? = some (.int .u8 n) ∧ 0 ≤ n ∧ n ≤ 255 := by
    intro i hi
    have h1 := he i hi
    rw [List.getElem?_eq_getElem (by omega), c5] at h1
    obtain ⟨n, hn, _, hw⟩ := DataW.trod_int Try.ui5 h1
    refine ⟨n, ?_, wf8 hw⟩
    have hlt : i < cs.toList.length := by simp; omega
    simp only [Value.cells, Nat.mul_one] at hn
    rw [List.drop_eq_getElem_cons hlt] at hn
    simp at hn
    rw [Array.getElem?_eq_getElem (by omega), hn]
  obtain ⟨n0, h0, g0⟩ := get 0 (by omega)
  obtain ⟨n1, h1, g1⟩ := get 1 (by omega)
  obtain ⟨n2, h2, g2⟩ := get 2 (by omega)
  refine ⟨fun k => match k with | 0 => n0.toNat | 1 => n1.toNat | 2 => n2.toNat | _ => 0, fun k => ?_, ?_⟩
  · match k with
    | 0 => simp only; omega
    | 1 => simp only; omega
    | 2 => simp only; omega
    | _ + 3 => simp
  · refine congrArg Value.agg (Array.ext_getElem? ?_)
    intro i
    by_cases hi : i < 3
    · match i, hi with
      | 0, _ => rw [h0]; simp; omega
      | 1, _ => rw [h1]; simp; omega
      | 2, _ => rw [h2]; simp; omega
    · rw [Array.getElem?_eq_none (by omega), Array.getElem?_eq_none (by simp; omega)]
set_option maxRecDepth 100000 in
theorem elem_act {W : World} : ElemOK enc Try.prog W 34 Act56.ok actV := by
  intro fuel cs x h
  have he : ∃ f0 f1 f2 f3, Try.prog.underlying 34 = some (.struct #[f0, f1, f2, f3]) ∧ f0.offset = 0 ∧ f1.offset = 1 ∧ f2.offset = 2 ∧ f3.offset = 3 ∧ f0.type = 5 ∧ f1.type = 5 ∧ f2.type = 5 ∧ f3.type = 27 := ⟨_, _, _, _, Try.underlying34, rfl, rfl, rfl, rfl, rfl, rfl, rfl, rfl⟩
  obtain ⟨f0, f1, f2, f3, he, o0, o1, o2, o3, t0, t1, t2, t3⟩ := he
  obtain ⟨xs, n, _, rfl, hl, hlen, hf⟩ := DataW.trod_struct he h
  rw [c34] at hl
  match xs, hlen, cs, hl with
  | [y0, y1, y2, y3], _, [a, b, c, d], _ =>
    have h0 := hf 0 f0 rfl
    have h1 := hf 1 f1 rfl
    have h2 := hf 2 f2 rfl
    have h3 := hf 3 f3 rfl
    rw [t0, o0, c5] at h0
    rw [t1, o1, c5] at h1
    rw [t2, o2, c5] at h2
    rw [t3, o3, c27] at h3
    obtain ⟨n0, e0, _, w0⟩ := DataW.trod_int Try.ui5 h0
    obtain ⟨n1, e1, _, w1⟩ := DataW.trod_int Try.ui5 h1
    obtain ⟨n2, e2, _, w2⟩ := DataW.trod_int Try.ui5 h2
    obtain ⟨n3, e3, _, w3⟩ := DataW.trod_int ui27 h3
    simp at e0 e1 e2 e3
    subst e0 e1 e2 e3
    have r0 := wf8 w0
    have r1 := wf8 w1
    have r2 := wf8 w2
    have r3 := wfi8 w3
    refine ⟨⟨n0.toNat, n1.toNat, n2.toNat, n3⟩, ⟨by simp only; omega, by simp only; omega, by simp only; omega, by simp only; omega, by simp only; omega⟩, .agg #[.int .u8 n0, .int .u8 n1, .int .u8 n2, .int .i8 n3], rfl, ?_⟩
    have q0 : ((n0.toNat : Nat) : Int) = n0 := by omega
    have q1 : ((n1.toNat : Nat) : Int) = n1 := by omega
    have q2 : ((n2.toNat : Nat) : Int) = n2 := by omega
    have e : actV ⟨n0.toNat, n1.toNat, n2.toNat, n3⟩ = AVal.agg [.v (.int .u8 n0), .v (.int .u8 n1), .v (.int .u8 n2), .v (.int .i8 n3)] := by
      show AVal.agg [.v (.int .u8 ((n0.toNat : Nat) : Int)), .v (.int .u8 ((n1.toNat : Nat) : Int)), .v (.int .u8 ((n2.toNat : Nat) : Int)), .v (.int .i8 n3)] = _
      rw [q0, q1, q2]
    rw [e]
    simp [Tr, TrL]

theorem open_arg {t e : TypeId} {α : Type} {good : α → Prop} {R : α → AVal} {sz : Nat} {W : World} {v : Value} {d : DataW H} {p : List MemPlace} (hu : Try.prog.underlying t = some (.slice e)) (hc : Try.prog.cellsOf e = sz) (h0 : 0 < sz)
    (hE : ElemOK enc Try.prog W e good R) (hv : v.oneCell' = true) (h : DataW.Trod enc Try.prog W 0 (fun _ => true) true t v d p) :
    ∃ l : List α, (∀ a ∈ l, good a) ∧ Tr (imm0 W) (.tree sz (l.map R)) v ∧ (d = .nil ∧ l = [] ∨ ∃ elems spare, d = .slice elems spare ∧ elems.length = l.length) := by
  obtain ⟨fuel, hf⟩ := h
  obtain ⟨l, hl, u, hu1, hu2, hT, hd⟩ := open_tree hu hc h0 hE hf
  rw [cells_of_one hv] at hu1
  simp at hu1
  subst hu1
  exact ⟨l, hl, hT, hd⟩

set_option maxRecDepth 100000 in
theorem lifted (os : Os) (started : os.Started) (H : Type) (enc : TypeId × Value → H) :
    ReturnsInHanded {} Try.checked os 4 .any (Rows.topMarksSpec.pre6 enc Try.prog Try.f4 Rows.topMarksRow.domain false) (Rows.topMarksSpec.post enc Try.prog Try.f4 false true false false) := by
  refine returnsInHanded_of_change_sized (C := Try.checked) own started (by kernel_rfl) Try.func4
    (ChangeSpec.witness6 (enc := enc) (C := Try.checked) false ⟨#[], #[.agg #[.int .u8 0, .int .u8 0, .int .u8 0], .slice none 0 0], []⟩ 8 (by kernel_rfl) (by kernel_rfl) (by kernel_rfl) (by kernel_rfl)) ?_
  intro W base args ds gs before hval0 hW hcnd hsz0 _
  have hval : ∀ (j : Nat) t v, Try.f4.params[j]? = some t → args[j]? = some v → Value.okWide Try.prog W .any base t v := hval0
  have hsz : (DataW.weightsEach Try.prog (Try.f4.params.toList ++ []) (ds ++ gs)).all (· ≤ reachBytes) = true := hsz0
  have hW' := hW
  obtain ⟨p, q, hA0, hV, rfl, hfz, hnd⟩ := hW
  have hA : DataW.TrodAll enc Try.prog W 0 (fun _ => true) true Try.f4.params.toList args.toList ds p := hA0
  have hA1 := hA
  rw [Try.params4] at hA hval hsz
  obtain ⟨v0, vs0, d0, ds0, p0, q0, hargs, rfl, rfl, h0, r0⟩ := trodAll_cons hA
  obtain ⟨v1, vs1, d1, ds1, p1, q1, rfl, rfl, rfl, h1, r1⟩ := trodAll_cons r0
  obtain ⟨rfl, rfl, rfl⟩ := trodAll_nil r1
  obtain rfl : args = #[v0, v1] := by cases args; simp_all
  obtain ⟨rfl, rfl⟩ := trodVars_none hV
  obtain ⟨q, hq, rfl⟩ := open_plan (hval 0 31 v0 rfl rfl) h0
  have one : v1.oneCell' = true := by
    obtain ⟨a, l, c, rfl⟩ := okWide_slice Try.us32 (hval 1 32 v1 rfl rfl)
    rfl
  obtain ⟨l, hl, hlt, _⟩ := open_arg Try.us32 c34 (by decide) elem_act one h1
  have hT : TrL (imm0 W) [.agg [u8v (q 0), u8v (q 1), u8v (q 2)], .tree 4 (actT l)] [.agg ⟨[.int .u8 (q 0 : Int), .int .u8 (q 1 : Int), .int .u8 (q 2 : Int)]⟩, v1] :=
    ⟨_, _, rfl, by simp [Tr, TrL], _, _, rfl, hlt, rfl⟩
  refine (calls_of_A (mk_top hq hl V0) hT (u := .bool true) (fun x V' h => h.1)).mono fun e W' ⟨he, hg, hb⟩ => ?_
  subst he
  refine ⟨_, rfl, post_of_same (pa := p0 ++ (p1 ++ [])) (pv := []) hW' (fun _ _ _ => trodAll_cons_mk (shut_bool un4 _) trodAll_mk0) (fun sp hs => trodAll_grow (tyOK_of noEmpty0) hb inTable hA1 (fun x hx => hs x (by simpa using hx))) (fun _ _ => rfl) (by simp)
    (hg.frame _) hg.2.1 (ok_one (by kernel_rfl) rfl (okWide_bool_mk un4 _))⟩

theorem over : Rows.topMarksRow.holds Try.pinned (OpenSpec.ofChange Rows.topMarksSpec) :=
  OpenClaim.holds_of_wide 4 Try.f4 rfl rfl rfl rfl rfl rfl rfl ⟨rfl, rfl, rfl, rfl, rfl⟩ rfl rfl rfl rfl rfl (by kernel_rfl) Try.func4 (by kernel_rfl)
    (of_decide_eq_true (by kernel_rfl)) (by unfold Func.isWrapper; first | (rw [if_pos (by decide +kernel)]; kernel_rfl) | (rw [if_neg (by decide +kernel)]; exact ⟨rfl, rfl⟩))
    (fun os started H enc _ => lifted os started H enc)

theorem proved : Rows.TopMarksSaid := over
#print axioms proved
end Go.Proofs.Ytapelipehckbcaa.topMarks
