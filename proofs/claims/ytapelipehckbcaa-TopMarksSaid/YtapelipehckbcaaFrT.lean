/- Frames and records: what the types and functions are. -/
import Derived.Test.YtapelipehckbcaaT
import Derived.Test.YtapelipehckbcaaFrA
set_option linter.unusedVariables false
namespace Go.AV
theorem blockA_hit {id : Nat} {Q : AQ} {st : ASt} {V : View} (h : Q .normal st V) : blockA id Q (.exit id) st V := by simpa [blockA] using h
theorem thenA_x {K : ASt → View → Prop} {Q : AQ} {i : Nat} {st : ASt} {V : View} (h : Q (.exit i) st V) : thenA K Q (.exit i) st V := h
theorem blockA_x {id i : Nat} {Q : AQ} {st : ASt} {V : View} (hn : i ≠ id) (h : Q (.exit i) st V) : blockA id Q (.exit i) st V := by simpa [blockA, hn] using h
theorem thenA_n {K : ASt → View → Prop} {Q : AQ} {st : ASt} {V : View} (h : K st V) : thenA K Q .normal st V := h
abbrev iv (i : Int) : AVal := .v (.int .i64 i)
abbrev uv (n : Nat) : AVal := .v (.int .u64 (n : Int))
abbrev bv (b : Bool) : AVal := .v (.bool b)
abbrev pt (b o : Nat) : AVal := .v (.pointer (some ⟨b, o, none⟩))
end Go.AV
namespace Go.Proofs
open Go.AV
theorem Try.okF5 : calleeOK Try.prog 5 = true := by kernel_rfl
theorem Try.okF8 : calleeOK Try.prog 8 = true := by kernel_rfl
theorem Try.okF9 : calleeOK Try.prog 9 = true := by kernel_rfl
theorem Try.okF29 : calleeOK Try.prog 29 = true := by kernel_rfl
theorem Try.okF30 : calleeOK Try.prog 30 = true := by kernel_rfl
theorem Try.okF31 : calleeOK Try.prog 31 = true := by kernel_rfl
theorem Try.okF32 : calleeOK Try.prog 32 = true := by kernel_rfl
theorem Try.okF33 : calleeOK Try.prog 33 = true := by kernel_rfl
theorem Try.okF34 : calleeOK Try.prog 34 = true := by kernel_rfl
theorem Try.okF35 : calleeOK Try.prog 35 = true := by kernel_rfl
theorem Try.okF36 : calleeOK Try.prog 36 = true := by kernel_rfl
theorem Try.okF37 : calleeOK Try.prog 37 = true := by kernel_rfl
theorem Try.okF38 : calleeOK Try.prog 38 = true := by kernel_rfl
theorem Try.okF39 : calleeOK Try.prog 39 = true := by kernel_rfl
theorem Try.okF40 : calleeOK Try.prog 40 = true := by kernel_rfl
theorem Try.okF54 : calleeOK Try.prog 54 = true := by kernel_rfl
theorem Try.okF55 : calleeOK Try.prog 55 = true := by kernel_rfl
theorem Try.okF56 : calleeOK Try.prog 56 = true := by kernel_rfl
theorem Try.okF57 : calleeOK Try.prog 57 = true := by kernel_rfl
theorem Try.okF58 : calleeOK Try.prog 58 = true := by kernel_rfl
theorem Try.okF59 : calleeOK Try.prog 59 = true := by kernel_rfl
theorem Try.okF60 : calleeOK Try.prog 60 = true := by kernel_rfl
theorem Try.okF61 : calleeOK Try.prog 61 = true := by kernel_rfl
theorem Try.okF62 : calleeOK Try.prog 62 = true := by kernel_rfl
theorem Try.okF63 : calleeOK Try.prog 63 = true := by kernel_rfl
theorem Try.okF64 : calleeOK Try.prog 64 = true := by kernel_rfl
theorem Try.okF65 : calleeOK Try.prog 65 = true := by kernel_rfl
theorem Try.okF69 : calleeOK Try.prog 69 = true := by kernel_rfl
theorem Try.okF70 : calleeOK Try.prog 70 = true := by kernel_rfl
theorem Try.okF71 : calleeOK Try.prog 71 = true := by kernel_rfl
theorem Try.okF72 : calleeOK Try.prog 72 = true := by kernel_rfl
theorem Try.okF73 : calleeOK Try.prog 73 = true := by kernel_rfl
theorem Try.okF74 : calleeOK Try.prog 74 = true := by kernel_rfl
theorem Try.okF75 : calleeOK Try.prog 75 = true := by kernel_rfl
theorem Try.okF76 : calleeOK Try.prog 76 = true := by kernel_rfl
theorem Try.okF77 : calleeOK Try.prog 77 = true := by kernel_rfl
theorem Try.up146 : Try.prog.underlying 146 = some (.pointer 165) := by kernel_rfl
theorem Try.ub4 : Try.prog.underlying 4 = some .bool := by kernel_rfl
theorem Try.um150 : Try.prog.underlying 150 = some (.map 4 3) := by kernel_rfl
end Go.Proofs
