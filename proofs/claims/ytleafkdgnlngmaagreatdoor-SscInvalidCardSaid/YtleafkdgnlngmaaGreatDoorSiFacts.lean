/- Facts of this program's types. -/
import Derived.Test.YtleafkdgnlngmaaGreatDoorAbBy
import Derived.Test.YtleafkdgnlngmaaGreatDoorProg
import Derived.KernelRfl
set_option linter.unusedSimpArgs false
set_option linter.unusedVariables false
namespace Go.Ab.T
open Go Go.Ab Go.Proofs
theorem ts5 : tsize Tryz.prog 5 = some 1 := by kernel_rfl
theorem tg5 : tagg Tryz.prog 5 = some false := by kernel_rfl
theorem te22 : telem Tryz.prog 35 = some 5 := by kernel_rfl
theorem ei5 : elemInfo Tryz.prog 5 = some (1, 1, [.int .u8 0]) := by kernel_rfl
theorem u22 : Tryz.prog.underlying 35 = some (.slice 5) := Tryz.underlying35
theorem u3 : Tryz.prog.underlying 3 = some (.int .i64) := Tryz.underlying3
theorem u23 : Tryz.prog.underlying 43 = some (.int .u64) := Tryz.underlying43
theorem u5 : Tryz.prog.underlying 5 = some (.int .u8) := Tryz.underlying5
theorem u241 : Tryz.prog.underlying 248 = some (.int .u32) := Tryz.underlying248
theorem i64I : isIntD (.int .i64) = true := rfl
theorem u64I : isIntD (.int .u64) = true := rfl
theorem u8I : isIntD (.int .u8) = true := rfl
theorem u32I : isIntD (.int .u32) = true := rfl
theorem globals3 : Tryz.prog.globals.size = 3 := by kernel_rfl

/-- unknown values are told later -/
theorem pok [Th] : POk Tryz.prog where
  names := by
    have h : (Tryz.prog.funcs.toList.all fun fn => !(fn.name == "runtime.NumGoroutine")) = true := by kernel_rfl
    intro f fn hf _
    rw [List.all_eq_true] at h
    have := h fn (List.mem_of_getElem? (i := f) (by rw [Array.getElem?_toList]; exact hf))
    simpa using this
  mixed := by kernel_rfl
end Go.Ab.T
