/- The layer's closed example runs and is true, with the library's tables as they are laid. -/
import Derived.Test.YtfjloafebkjadaaGreatDoorAIEmb
import Derived.Test.YtfjloafebkjadaaGreatDoorAIAuto
import Derived.Test.YtfjloafebkjadaaGreatDoorRows
import Derived.Test.YtfjloafebkjadaaGreatDoorChecked
import Derived.LaidLaws
/- The layer's closed example runs and is true, with the library's tables as they are laid. -/
/- The layer's closed example runs and is true, with the library's tables as they are laid. -/
/- The layer's closed example runs and is true, with the library's tables as they are laid. -/
/- The layer's closed example runs and is true, with the library's tables as they are laid. -/
namespace Go.Proofs.YtfjloafebkjadaaGreatDoor
namespace Pf
open Go Go.AI Go.Proofs
def cellsA : List AV := [AV.int .u8 0, AV.int .u8 1, AV.int .u8 28, AV.int .u8 2, AV.int .u8 29, AV.int .u8 14, AV.int .u8 24, AV.int .u8 3, AV.int .u8 30, AV.int .u8 22, AV.int .u8 20, AV.int .u8 15, AV.int .u8 25, AV.int .u8 17, AV.int .u8 4, AV.int .u8 8, AV.int .u8 31, AV.int .u8 27, AV.int .u8 13, AV.int .u8 23, AV.int .u8 21, AV.int .u8 19, AV.int .u8 16, AV.int .u8 7, AV.int .u8 26, AV.int .u8 12, AV.int .u8 18, AV.int .u8 6, AV.int .u8 11, AV.int .u8 5, AV.int .u8 10, AV.int .u8 9]
def cellsB : List AV := [AV.int .u8 0, AV.int .u8 1, AV.int .u8 56, AV.int .u8 2, AV.int .u8 57, AV.int .u8 49, AV.int .u8 28, AV.int .u8 3, AV.int .u8 61, AV.int .u8 58, AV.int .u8 42, AV.int .u8 50, AV.int .u8 38, AV.int .u8 29, AV.int .u8 17, AV.int .u8 4, AV.int .u8 62, AV.int .u8 47, AV.int .u8 59, AV.int .u8 36, AV.int .u8 45, AV.int .u8 43, AV.int .u8 51, AV.int .u8 22, AV.int .u8 53, AV.int .u8 39, AV.int .u8 33, AV.int .u8 30, AV.int .u8 24, AV.int .u8 18, AV.int .u8 12, AV.int .u8 5, AV.int .u8 63, AV.int .u8 55, AV.int .u8 48, AV.int .u8 27, AV.int .u8 60, AV.int .u8 41, AV.int .u8 37, AV.int .u8 16, AV.int .u8 46, AV.int .u8 35, AV.int .u8 44, AV.int .u8 21, AV.int .u8 52, AV.int .u8 32, AV.int .u8 23, AV.int .u8 11, AV.int .u8 54, AV.int .u8 26, AV.int .u8 40, AV.int .u8 15, AV.int .u8 34, AV.int .u8 20, AV.int .u8 31, AV.int .u8 10, AV.int .u8 25, AV.int .u8 14, AV.int .u8 19, AV.int .u8 9, AV.int .u8 13, AV.int .u8 8, AV.int .u8 7, AV.int .u8 6]
def cellsC : List AV := [AV.int .u64 1, AV.int .u64 10, AV.int .u64 100, AV.int .u64 1000, AV.int .u64 10000, AV.int .u64 100000, AV.int .u64 1000000, AV.int .u64 10000000, AV.int .u64 100000000, AV.int .u64 1000000000, AV.int .u64 10000000000, AV.int .u64 100000000000, AV.int .u64 1000000000000, AV.int .u64 10000000000000, AV.int .u64 100000000000000, AV.int .u64 1000000000000000, AV.int .u64 10000000000000000, AV.int .u64 100000000000000000, AV.int .u64 1000000000000000000, AV.int .u64 10000000000000000000]
def gt : Tree (List AV) := ((Tree.leaf.put 1 cellsA).put 2 cellsB).put 0 cellsC
theorem aw : isTrue (acall (mkTab Tryz.prog gt) noOracle 1000000 16 [] ⟨.leaf, 0⟩) = true := by kernel_rfl
def zsA : List Int := [0, 1, 28, 2, 29, 14, 24, 3, 30, 22, 20, 15, 25, 17, 4, 8, 31, 27, 13, 23, 21, 19, 16, 7, 26, 12, 18, 6, 11, 5, 10, 9]
def zsB : List Int := [0, 1, 56, 2, 57, 49, 28, 3, 61, 58, 42, 50, 38, 29, 17, 4, 62, 47, 59, 36, 45, 43, 51, 22, 53, 39, 33, 30, 24, 18, 12, 5, 63, 55, 48, 27, 60, 41, 37, 16, 46, 35, 44, 21, 52, 32, 23, 11, 54, 26, 40, 15, 34, 20, 31, 10, 25, 14, 19, 9, 13, 8, 7, 6]
def zsC : List Int := [1, 10, 100, 1000, 10000, 100000, 1000000, 10000000, 100000000, 1000000000, 10000000000, 100000000000, 1000000000000, 10000000000000, 100000000000000, 1000000000000000, 10000000000000000, 100000000000000000, 1000000000000000000, 10000000000000000000]
/-- What all rows of the seat lay. -/
abbrev laid : List (String × DataW Unit) := [("math/bits.deBruijn32tab", Rows.laid_math_bits_deBruijn32tab), ("math/bits.deBruijn64tab", Rows.laid_math_bits_deBruijn64tab), ("internal/strconv.uint64pow10", Rows.laid_internal_strconv_uint64pow10)]
theorem glob {W : World} (hL : laidMetH Tryz.prog laid W) : GlobOk (mkTab Tryz.prog gt) W := by
  have h' : laidMet Tryz.prog laid W := hL
  obtain ⟨ps, hl, _⟩ := h'
  intro g cs hg
  have hg : gt.get g = some cs := hg
  unfold gt at hg
  rw [Tree.get_put] at hg
  split at hg
  · rename_i e; subst e; cases hg
    exact laid_ints hl (n := "internal/strconv.uint64pow10") (zs := zsC) (k := .u64) (t := 213) (by exact List.mem_cons_of_mem _ (List.mem_cons_of_mem _ (List.mem_cons_self ..))) (by kernel_rfl) (by kernel_rfl) (by kernel_rfl) (e := 196) (by kernel_rfl) (by kernel_rfl) (by kernel_rfl)
  rw [Tree.get_put] at hg
  split at hg
  · rename_i e; subst e; cases hg
    exact laid_ints hl (n := "math/bits.deBruijn64tab") (zs := zsB) (k := .u8) (t := 225) (by exact List.mem_cons_of_mem _ (List.mem_cons_self ..)) (by kernel_rfl) (by kernel_rfl) (by kernel_rfl) (e := 5) (by kernel_rfl) (by kernel_rfl) (by kernel_rfl)
  rw [Tree.get_put] at hg
  split at hg
  · rename_i e; subst e; cases hg
    exact laid_ints hl (n := "math/bits.deBruijn32tab") (zs := zsA) (k := .u8) (t := 224) (by exact List.mem_cons_self ..) (by kernel_rfl) (by kernel_rfl) (by kernel_rfl) (e := 5) (by kernel_rfl) (by kernel_rfl) (by kernel_rfl)
  · rw [Tree.get_leaf] at hg; cases hg
noncomputable def laidWorld (os : Os) : World :=
  let w0 := World.holding Tryz.prog os ⟨#[], #[], []⟩
  let lay (k : IntKind) (zs : List Int) : Obj → Obj := fun | .cells _ t fz => .cells ⟨zs.map fun z => .int k z⟩ t fz | o => o
  { w0 with heap := ((w0.heap.modify 0 (lay .u64 zsC)).modify 1 (lay .u8 zsA)).modify 2 (lay .u8 zsB) }
theorem met (os : Os) (args : Array Value) : laidMetH Tryz.prog laid ((laidWorld os).forCall (fun _ _ => 0) ⟨#[], args, []⟩).memory :=
  laidMet_of_run' 8 (by kernel_rfl) (by kernel_rfl)
end Pf
end Go.Proofs.YtfjloafebkjadaaGreatDoor
