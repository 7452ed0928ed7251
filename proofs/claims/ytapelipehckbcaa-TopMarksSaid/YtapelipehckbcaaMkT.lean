/- Cells with marks: what the types and functions are. -/
import Derived.Test.YtapelipehckbcaaFrT
import Derived.Test.YtapelipehckbcaaMkA
import Derived.DeepKeys4
set_option linter.unusedVariables false
namespace Go.Proofs
open Go.AV
theorem Try.okM7 : calleeOK Try.prog 7 = true := by kernel_rfl
theorem Try.okM17 : calleeOK Try.prog 17 = true := by kernel_rfl
theorem Try.okM18 : calleeOK Try.prog 18 = true := by kernel_rfl
theorem Try.okM19 : calleeOK Try.prog 19 = true := by kernel_rfl
theorem Try.okM20 : calleeOK Try.prog 20 = true := by kernel_rfl
theorem Try.okM21 : calleeOK Try.prog 21 = true := by kernel_rfl
theorem Try.okM22 : calleeOK Try.prog 22 = true := by kernel_rfl
theorem Try.okM23 : calleeOK Try.prog 23 = true := by kernel_rfl
theorem Try.okM24 : calleeOK Try.prog 24 = true := by kernel_rfl
theorem Try.okM25 : calleeOK Try.prog 25 = true := by kernel_rfl
theorem Try.okM26 : calleeOK Try.prog 26 = true := by kernel_rfl
theorem Try.okM27 : calleeOK Try.prog 27 = true := by kernel_rfl
theorem Try.okM28 : calleeOK Try.prog 28 = true := by kernel_rfl
theorem Try.okM47 : calleeOK Try.prog 47 = true := by kernel_rfl
theorem Try.okM48 : calleeOK Try.prog 48 = true := by kernel_rfl
theorem Try.okM49 : calleeOK Try.prog 49 = true := by kernel_rfl
theorem Try.okM50 : calleeOK Try.prog 50 = true := by kernel_rfl
theorem Try.okM51 : calleeOK Try.prog 51 = true := by kernel_rfl
theorem Try.okM52 : calleeOK Try.prog 52 = true := by kernel_rfl
theorem Try.okM53 : calleeOK Try.prog 53 = true := by kernel_rfl
theorem Try.okM67 : calleeOK Try.prog 67 = true := by kernel_rfl
theorem Try.up66 : Try.prog.underlying 66 = some (.pointer 122) := by kernel_rfl
theorem Try.um126 : Try.prog.underlying 126 = some (.map 124 2) := by kernel_rfl
theorem Try.mcl : Extern.findNext Try.f68 = none ∧ (Try.f68.name == "runtime.NumGoroutine") = false ∧ Try.f68.body.isNone = true := by refine ⟨?_, ?_, ?_⟩ <;> kernel_rfl
theorem Try.mcf : Extern.find Try.f68 = some Extern.MapsClone.clone := by kernel_rfl
theorem Try.klaw124 : WideMaps.KeyLaw Try.prog 124 := deep_law (m := 2) (by omega) (by kernel_rfl) (by kernel_rfl) (by kernel_rfl)
abbrev okK (v : Value) : Prop := ∃ l, keyOf Try.prog 124 v = some l
theorem Try.kl : KLaw Try.prog 124 okK := klaw_wide Try.klaw124
theorem okKb : (cells18.all fun p => (keyOf Try.prog 124 (K2 p.1 p.2)).isSome) = true := by kernel_rfl
theorem okK2 {o i : Nat} (ho : o < 3) (hi : i < 6) : okK (K2 o i) := by
  have := List.all_eq_true.1 okKb (o, i) (mem18.2 ⟨ho, hi⟩)
  obtain ⟨l, hl⟩ := Option.isSome_iff_exists.1 this
  exact ⟨l, hl⟩
theorem okKdif (s c : Ce) : ∀ p ∈ dif s c, okK p.1 := by
  rintro ⟨k, x⟩ hp
  obtain ⟨o, i, h1, h2, _, rfl, _⟩ := dif_mem.1 hp
  exact okK2 h1 h2
#print axioms okKdif
#print axioms Try.mcf
end Go.Proofs
