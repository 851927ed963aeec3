/-
  ClausesOne, ClausesPairs: the walks.
-/
import Derived.Test.YtogghgcgehhcaaaClV
set_option linter.unusedVariables false
set_option linter.unusedSimpArgs false
namespace Go.Proofs.S
open Go Go.Sx Go.Proofs Go.Cl

variable {h : Heap} {c d : List Int} {s s2 : Sl} {fr : Fr} {G As : List Asn}

theorem clausesOne_F (hA : At h (li c s)) (hB : At h (li d s2)) (l : Int) (K : Bool → HP) (hK : ∀ x h', (x = true ∧ Ext [] h h') → K x h') : F_salvorlaw02_ClausesOne s l s2 K h := by
  unfold F_salvorlaw02_ClausesOne
  have l1 := rsl_len hA
  have l2 := rsl_len hB
  by_cases h1 : c.length > 200
  · rw [decide_eq_true (show (s.len : Int) > 200 by omega), brB_true]
    exact call_of awake_c fun r h' e => hK r h' e
  · rw [decide_eq_false (show ¬ (s.len : Int) > 200 by omega), brB_false]
    by_cases h2 : d.length > 100
    · rw [decide_eq_true (show (s2.len : Int) > 100 by omega), brB_true]
      exact call_of awake_c fun r h' e => hK r h' e
    · rw [decide_eq_false (show ¬ (s2.len : Int) > 100 by omega), brB_false]
      refine call_of (one_c hA hB (by omega) (by omega) l) ?_
      rintro _ h3 ⟨rfl, x3⟩
      rw [brB_true]
      exact call_of awake_c fun r h' e => hK r h' ⟨e.1, x3.nil_trans e.2⟩

theorem clausesPairs_F (hA : At h (li c s)) (hB : At h (li d s2)) (l : Int) (K : Bool → HP) (hK : ∀ x h', (x = true ∧ Ext [] h h') → K x h') : F_salvorlaw02_ClausesPairs s s2 l K h := by
  unfold F_salvorlaw02_ClausesPairs
  have l1 := rsl_len hA
  have l2 := rsl_len hB
  by_cases h1 : c.length > 200
  · rw [decide_eq_true (show (s.len : Int) > 200 by omega), brB_true]
    exact call_of awake_c fun r h' e => hK r h' e
  · rw [decide_eq_false (show ¬ (s.len : Int) > 200 by omega), brB_false]
    by_cases h2 : d.length > 200
    · rw [decide_eq_true (show (s2.len : Int) > 200 by omega), brB_true]
      exact call_of awake_c fun r h' e => hK r h' e
    · rw [decide_eq_false (show ¬ (s2.len : Int) > 200 by omega), brB_false]
      refine call_of (pair_c hA hB (by omega) (by omega) l) ?_
      rintro _ h3 ⟨rfl, x3⟩
      rw [brB_true]
      exact call_of awake_c fun r h' e => hK r h' ⟨e.1, x3.nil_trans e.2⟩

end Go.Proofs.S
