/-
  The seat's own facts, for the ends.
-/
import Derived.Test.YtkfdfbgceockpaaOrdY
import Derived.Test.YtkfdfbgceockpaaSxEnd
import Derived.Test.YtkfdfbgceockpaaRows
import Derived.Test.YtkfdfbgceockpaaChecked
set_option linter.unusedVariables false
namespace Go.Proofs.Ytkfdfbgceockpaa
open Go Go.Sx

theorem Try.own : ownKnob Try.prog.godebug = none := by kernel_rfl
theorem Try.laidOut : laidOutB Try.prog = true := by kernel_rfl
theorem Try.cells5 : Try.prog.cellsOf 5 = 1 := by kernel_rfl
theorem byts_rsl {h : Heap} {s : Sl} {zs : List Int} (hA : At h (rsl (Value.int .u8) zs s)) (hw : ∀ z ∈ zs, (Lit.int .u8 z).wf = true) : Go.Proofs.Ord.Byts h s.a s.len := by
  intro i hi
  have hl := rsl_len hA
  have hi' : i < zs.length := by omega
  have hx : zs[i]? = some zs[i] := List.getElem?_eq_getElem hi'
  obtain ⟨a, ea, hc⟩ := rsl_cells hA hx
  have hb := wf_u8 (hw _ (List.getElem_mem hi'))
  refine ⟨a, zs[i], ea, hc, hb.1, hb.2, ?_⟩
  unfold cell at hc
  split at hc
  · rename_i c t f e; exact (Array.getElem?_eq_some_iff.1 e).1
  · cases hc

end Go.Proofs.Ytkfdfbgceockpaa
