/- Texts joined: XTxtLaid. Each says at its head what it proves; conditions: as said there. -/
import Derived.Test.YthleniobcbdepaaGreatDoorRows
import Derived.Test.YthleniobcbdepaaGreatDoorC26
import Derived.Lib.LaidTab
import Derived.Stop.LaidErr
import Derived.LaidLaws
/- What a row's list of variables gives of the library's texts: TxtV. No conditions. -/
namespace Go.Proofs.YthleniobcbdepaaGreatDoor
set_option linter.unusedVariables false
set_option linter.unusedSimpArgs false
open Go.RowKit

theorem starE : "*" ++ "errors.errorString" = "*errors.errorString" := by decide
theorem rowE (u : TypeId) (h : Tryz.prog.typeName? 3 u = some "*errors.errorString") : u = 333 :=
  typeName_ptr_named (nm := "errors.errorString") (by rw [starE]; kernel_rfl) (by kernel_rfl) (by decide) u (by rw [starE]; exact h)
theorem pow_global : Tryz.prog.globalNamed "internal/strconv.uint64pow10" = some 2 := by kernel_rfl
theorem txtV_of {W : World} {r1 r2 r3 : List (String × DataW Unit)} (hp : laidMet Tryz.prog (("internal/strconv.uint64pow10", Rows.laid_internal_strconv_uint64pow10) :: r1) W)
    (hs : laidMet Tryz.prog (("strconv.ErrSyntax", Rows.laid_strconv_ErrSyntax) :: r2) W) (hr : laidMet Tryz.prog (("strconv.ErrRange", Rows.laid_strconv_ErrRange) :: r3) W) (hsh : W.ShapedOpen Tryz.prog) : TxtV W.heap.size W := by
  have hp' : laidMet Tryz.prog (("internal/strconv.uint64pow10", Lib.tabData .u64 Lib.pow10Tab) :: r1) W := hp
  have ht := Lib.tabIs_of_head pow_global (t := 317) (e := 222) (n := 20) (by kernel_rfl) (by kernel_rfl) (by kernel_rfl) (by kernel_rfl) (by kernel_rfl) hp'
  obtain ⟨a0, s0, hv0, -, -, -⟩ := laid_sentinel hs (g := 3) (by kernel_rfl) (ti := 29) (by kernel_rfl) Tryz.underlying29 rowE Tryz.underlying333 Tryz.underlying335 rfl rfl Tryz.underlying9 (by kernel_rfl) (by kernel_rfl)
  obtain ⟨a1, s1, hv1, -, -, -⟩ := laid_sentinel hr (g := 4) (by kernel_rfl) (ti := 29) (by kernel_rfl) Tryz.underlying29 rowE Tryz.underlying333 Tryz.underlying335 rfl rfl Tryz.underlying9 (by kernel_rfl) (by kernel_rfl)
  have h0 := World.var?_cell (g := 3) (by kernel_rfl) hv0 0
  have h1 := World.var?_cell (g := 4) (by kernel_rfl) hv1 0
  have c0 : W.cell? ⟨3, 0, none⟩ = some (.iface 333 (.pointer (some a0))) := by simpa using h0
  have c1 : W.cell? ⟨4, 0, none⟩ = some (.iface 333 (.pointer (some a1))) := by simpa using h1
  obtain ⟨m, hm⟩ := layCut.s1_3 W hsh
  exact ⟨Lib.tabBelow_of_tabIs ht, ⟨_, c0, .inr ⟨_, _, rfl⟩⟩, ⟨_, c1, .inr ⟨_, _, rfl⟩⟩, ⟨m, hm⟩, World.block_lt_of_cell? _ _ c0, World.block_lt_of_cell? _ _ c1, World.block_lt_of_cell? _ _ hm⟩
end Go.Proofs.YthleniobcbdepaaGreatDoor
