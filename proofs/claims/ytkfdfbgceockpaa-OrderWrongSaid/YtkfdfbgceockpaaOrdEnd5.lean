/-
  OrderWrong: the given statement, with no condition.
-/
import Derived.Test.YtkfdfbgceockpaaOrdL5
import Derived.Test.YtkfdfbgceockpaaRows
import Derived.Test.YtkfdfbgceockpaaChecked
import Derived.ProofKit
set_option linter.unusedVariables false
namespace Go.Proofs.Ytkfdfbgceockpaa
open Go Go.Sx Go.ChangeShapes Go.WideShapes Go.ChangeAt Go.RowKit

theorem Try.own : ownKnob Try.prog.godebug = none := by kernel_rfl
theorem Try.laidOut : laidOutB Try.prog = true := by kernel_rfl
theorem Try.cells5 : Try.prog.cellsOf 5 = 1 := by kernel_rfl

theorem below_of {W W' : World} (s : Go.Sx.Same W W') (x : Ext [] W.heap W'.heap) : Below W.heap.size W W' :=
  ⟨s.os, s.tape, s.output, s.size, fun k hk => x.2 k hk (by simp)⟩

theorem byts_of {H : Type} {enc : TypeId × Value → H} {W : World} {fuel : Nat} {a : Option Addr} {len cap : Nat} {x : DataW H × List MemPlace}
    (h : DataW.trod enc Try.prog W 0 (fun _ => true) true fuel 22 [.slice a len cap] = some x) (hlt : ∀ p ∈ x.2, p.block < W.heap.size) : Go.Proofs.Ord.Byts W.heap a len ∧ len ≤ cap := by
  rcases open_ints Try.underlying22 Try.underlying5 Try.cells5 h with ⟨hcs, hx⟩ | ⟨ad, len', cap', zs, hcs, _, hl, hm, hz, hx, hcell, hwz⟩
  · simp at hcs
    obtain ⟨rfl, rfl, rfl⟩ := hcs
    exact ⟨fun i hi => by omega, by omega⟩
  · simp at hcs
    obtain ⟨rfl, rfl, rfl⟩ := hcs
    subst hx
    simp only [if_true] at hz
    refine ⟨fun i hi => ⟨ad, zs.getD i 0, rfl, ?_, ?_⟩, hl⟩
    · exact hcell i (by omega)
    · have hw := hwz (zs.getD i 0) (by
        rw [List.getD_eq_getElem?_getD, List.getElem?_eq_getElem (by omega)]; exact List.getElem_mem _)
      have hr : 0 ≤ zs.getD i 0 ∧ zs.getD i 0 ≤ 255 := by simpa [Lit.wf, IntKind.min, IntKind.max, IntKind.signed, IntKind.bits] using hw
      refine ⟨hr.1, by omega, ?_⟩
      obtain ⟨b, off, spot⟩ := ad
      have := hlt (.cell b off) (MemPlace.mem_row.2 ⟨0, by omega, by simp⟩)
      have e : ((⟨b, off, spot⟩ : Addr).add i).block = b := by unfold Addr.add; split <;> rfl
      rw [e]; exact this

set_option maxRecDepth 100000 in
theorem orderWrong_lifted (os : Os) (started : os.Started) (H : Type) (enc : TypeId × Value → H) :
    ReturnsInHanded {} Try.checked os 5 .any (Rows.orderWrongSpec.pre6 enc Try.prog Try.f5 Rows.orderWrongRow.domain false) (Rows.orderWrongSpec.post enc Try.prog Try.f5 false true false false) := by
  refine returnsInHanded_of_change (C := Try.checked) Try.own started (by kernel_rfl) Try.func5
    (ChangeSpec.witness6 (enc := enc) (C := Try.checked) false ⟨#[], #[.slice none 0 0, .int .i64 0], []⟩ 8 (by kernel_rfl) (by kernel_rfl) (by kernel_rfl) (by kernel_rfl)) ?_
  intro W base args ds gs before hval0 hW hcnd _
  have hval : ∀ (j : Nat) t v, Try.f5.params[j]? = some t → args[j]? = some v → Value.okWide Try.prog W .any base t v := hval0
  have hW' := hW
  obtain ⟨p, q, hA0, hV, rfl, hfz, hnd⟩ := hW
  have hA : DataW.TrodAll enc Try.prog W 0 (fun _ => true) true Try.f5.params.toList args.toList ds p := hA0
  rw [Try.params5] at hA hval
  obtain ⟨v0, v1, d0, d1, p0, p1, rfl, rfl, rfl, h0, h1⟩ := trodAll_two hA
  obtain ⟨rfl, rfl⟩ := trodVars_none hV
  obtain ⟨a0, len, cap, rfl⟩ := okWide_slice Try.underlying22 (hval 0 22 v0 rfl rfl)
  obtain ⟨k, rfl, rfl, rfl, wk⟩ := open_int Try.underlying3 (hval 1 3 v1 rfl rfl) h1
  have h0k := h0
  obtain ⟨fuel, hf⟩ := h0
  clear hA0 hval0
  simp only [List.append_nil] at hW'
  have hlt : ∀ x ∈ p0, x.block < W.heap.size := fun x hx => by simpa using hW'.lt x hx
  have hargs : ∀ (W' : World) (sp : Nat → Bool), Below W.heap.size W W' → (∀ x ∈ p0, sp x.block = true) → DataW.Trod enc Try.prog W' 0 sp true 22 (.slice a0 len cap) d0 p0 :=
    fun W' sp hn hsp => WideElems.Trod_stays Try.laidOut (by kernel_rfl) (of_decide_eq_true (by kernel_rfl)) h0k (fun x hx => hn.same (hlt x hx)) hsp
  have hby := byts_of (a := a0) (len := len) (cap := cap) hf hlt
  have hcall : Calls Try.prog 5 #[.slice a0 len cap, .int .i64 k] W fun e W' => e = .returned (.bool true) ∧ Below W.heap.size W W' := by
    have hF := Go.Proofs.Ord.orderWrong_F (h := W.heap) (a := ⟨a0, len, cap⟩) (k := k) hby.1 hby.2 (fun x h' => x = true ∧ Go.Sx.Ext [] W.heap h') (fun x h' hx => hx)
    refine (calls_of_fn (P := Try.prog) (fn := Try.f5) (τ := .bool) Go.Proofs.Ord.follows Try.func5 (by kernel_rfl) (by kernel_rfl) (Eq.mpr (Go.Proofs.Ord.E_salvorlaw11_OrderWrong ⟨a0, len, cap⟩ k _ W.heap) hF) W rfl).mono ?_
    rintro e W' ⟨v, rfl, ⟨x, rfl, rfl, xx⟩, sm⟩
    exact ⟨rfl, below_of sm xx⟩
  refine hcall.mono fun e W' ⟨he, hb⟩ => ?_
  subst he
  exact ⟨_, rfl, ⟨_, _, _, [], _, [], hW', trodAll_mk1 (shut_bool Try.underlying4 _), trodAll_mk2 (hargs W' _ hb fun x hx => by simpa using hlt x hx) (shut_int Try.underlying3 wk), rfl, hb.frame _, fun h => by cases h⟩⟩

theorem orderWrong_holds : Rows.OrderWrongSaid :=
  OpenClaim.holds_of_wide 5 Try.f5 rfl rfl rfl rfl rfl rfl rfl ⟨rfl, rfl, rfl, rfl, rfl⟩ rfl rfl rfl rfl rfl (by kernel_rfl) Try.func5 (by kernel_rfl)
    (of_decide_eq_true (by kernel_rfl)) (by unfold Func.isWrapper; first | (rw [if_pos (by decide +kernel)]; kernel_rfl) | (rw [if_neg (by decide +kernel)]; exact ⟨rfl, rfl⟩))
    (fun os started H enc _ => orderWrong_lifted os started H enc)

end Go.Proofs.Ytkfdfbgceockpaa
