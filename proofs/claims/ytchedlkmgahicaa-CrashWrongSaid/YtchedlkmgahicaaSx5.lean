/-
  Every operation: what its predicate says, the machine does. Nothing here names a program.
-/
import Derived.Test.YtchedlkmgahicaaSx4
set_option linter.unusedVariables false
set_option linter.unusedSimpArgs false
namespace Go.Sx
open Go

section sound
variable {P : Program}

theorem ldVC_ok {ρ : Operand → Value} {t : TypeId} {x : Operand} {a : Addr} {K : Value → HP} {h : Heap} (hx : ρ x = .pointer (some a)) (hh : ldVC P t a K h) : ∃ v, K v h ∧ LdOk P ρ t x h v := by
  unfold ldVC at hh
  split at hh
  · rename_i i d hi hd
    split at hh
    · rename_i hA
      split at hh
      · rename_i hb
        obtain ⟨y, hc, hK⟩ := hh
        refine ⟨_, hK, a, hx, i, d, hi, hd, .inl ⟨hA, _, rfl, ?_, by simpa using hc⟩⟩
        have := Nat.eq_of_beq_eq_true hb
        simp [vals_length, this]
      · exact hh.elim
    · rename_i hA
      obtain ⟨y, hc, hK⟩ := hh
      exact ⟨_, hK, a, hx, i, d, hi, hd, .inr ⟨hA, hc⟩⟩
  · exact hh.elim

theorem opVC_quiet {e : Env} {o : Oper} {K : Value → HP} {h : Heap} (hq : isQuiet o = true) (hh : opVC P e o K h) : ∃ v, K v h ∧ QVal P e.ev o h v := by
  unfold opVC at hh
  split at hh
  · rename_i x ho; simp [isQuiet, ho] at hq
  · rename_i c a b ho
    split at hh
    · rename_i t hc
      refine ⟨_, hh, ?_⟩
      simp only [QVal, ho]
      intro w
      have : pickV t (e.ev a) (e.ev b) = if t then e.ev a else e.ev b := by
        unfold pickV
        split
        · rename_i p q h1 h2; cases t <;> simp [h1, h2]
        · cases t <;> simp
      simp [execOp, ho, hc, asBool, this]
    · exact hh.elim
  · rename_i t a ho
    split at hh
    · rename_i p hp
      cases p with
      | none => exact hh.elim
      | some ad =>
        obtain ⟨v, hK, hl⟩ := ldVC_ok (ρ := e.ev) (x := a) hp hh
        exact ⟨v, hK, by simp only [QVal, ho]; exact hl⟩
    · exact hh.elim
  · rename_i t a v ho; simp [isQuiet, ho] at hq
  · rename_i x ho
    split at hh
    · rename_i p hp
      cases p with
      | none => exact hh.elim
      | some ad =>
        refine ⟨_, hh, ?_⟩
        simp only [QVal, ho]
        intro w
        simp [execOp, ho, hp]
    · exact hh.elim
  · rename_i op t x y ty ho
    obtain ⟨v, hK, hr⟩ := nilVC_quiet ho hh
    exact ⟨v, hK, by simp only [QVal, ho]; exact hr⟩
  · rename_i t x ix ho
    split at hh
    · rename_i len el a k i hu hx hi
      split at hh
      · rename_i ie hie
        split at hh
        · exact hh.elim
        · obtain ⟨h0, h1, hK⟩ := hh
          refine ⟨_, hK, ?_⟩
          simp only [QVal, ho]
          intro w
          simp [execOp, ho, Instr.indexAt, hx, hi, asIntOf, run_underlying hu, Instr.sureAddr, sizeOf, typeInfo, hie, h0, h1]
      · exact hh.elim
    · rename_i el a len c k i hu hx hi
      split at hh
      · rename_i ie hie
        obtain ⟨ad, rfl, h0, h1, hK⟩ := hh
        refine ⟨_, hK, ?_⟩
        simp only [QVal, ho]
        intro w
        simp [execOp, ho, Instr.indexAt, hx, hi, asIntOf, run_underlying hu, sizeOf, typeInfo, hie, h0, h1]
      · exact hh.elim
    · exact hh.elim
  · rename_i t x ix ho
    split at hh
    · rename_i s k i hu hx hi
      obtain ⟨b, h0, h1, hK⟩ := hh
      refine ⟨_, hK, ?_⟩
      simp only [QVal, ho]
      intro w
      simp [execOp, ho, Instr.index, hx, hi, asIntOf, run_underlying hu, h0, h1]
    · obtain ⟨v, hK, hr⟩ := gen_quiet hh
      exact ⟨v, hK, by simp only [QVal, ho]; exact hr⟩
  · rename_i t x lo hi mx ho
    split at hh
    · rename_i el a l c hu hx
      split at hh
      · rename_i ie hie
        split at hh
        · rename_i lo hi
          unfold boundV at hh
          split at hh
          · rename_i k1 l' hl'
            split at hh
            · rename_i k2 h' hh'
              obtain ⟨c1, c2, c3, c4, hK⟩ := hh
              refine ⟨_, hK, ?_⟩
              simp only [QVal, ho]
              intro w
              have c4' : max h' 0 = h' := by omega
              have c5 : ¬ h' < l' := by omega
              simp [execOp, ho, Instr.sliceAt, Instr.slice, Instr.sliceBounds, Instr.sliceBound, hx, hl', hh', asIntOf, run_underlying hu, sizeOf, typeInfo, hie, c1, c2, c3, c4, c4', c5, slR]
            · exact hh.elim
          · exact hh.elim
        · rename_i lo
          unfold boundV at hh
          split at hh
          · rename_i k1 l' hl'
            obtain ⟨c3, c4, hK⟩ := hh
            refine ⟨_, hK, ?_⟩
            simp only [QVal, ho]
            intro w
            simp [execOp, ho, Instr.sliceAt, Instr.slice, Instr.sliceBounds, Instr.sliceBound, hx, hl', asIntOf, run_underlying hu, sizeOf, typeInfo, hie, c3, c4, slR]
          · exact hh.elim
        · rename_i hi
          unfold boundV at hh
          split at hh
          · rename_i k2 h' hh'
            obtain ⟨c1, c2, hK⟩ := hh
            refine ⟨_, hK, ?_⟩
            simp only [QVal, ho]
            intro w
            simp [execOp, ho, Instr.sliceAt, Instr.slice, Instr.sliceBounds, Instr.sliceBound, hx, hh', asIntOf, run_underlying hu, sizeOf, typeInfo, hie, c1, c2, slR]
          · exact hh.elim
        · refine ⟨_, hh, ?_⟩
          simp only [QVal, ho]
          intro w
          have e1 : ∀ b : Addr, b.add 0 = b := fun b => rfl
          cases a <;> simp [execOp, ho, Instr.sliceAt, Instr.slice, Instr.sliceBounds, hx, run_underlying hu, sizeOf, typeInfo, hie, e1]
      · exact hh.elim
    · rename_i mx el a l c hu hx
      split at hh
      · rename_i ie hie
        split at hh
        · rename_i lo hi
          unfold boundV at hh
          split at hh
          · rename_i k1 l' hl'
            split at hh
            · rename_i k2 h' hh'
              split at hh
              · rename_i k3 m' hm'
                obtain ⟨c1, c2, c3, c4, c5, c6, hK⟩ := hh
                refine ⟨_, hK, ?_⟩
                simp only [QVal, ho]
                intro w
                have d1 : max m' 0 = m' := by omega
                have d2 : max h' 0 = h' := by omega
                have d3 : ¬ m' < h' := by omega
                have d4 : ¬ h' < l' := by omega
                simp [execOp, ho, Instr.sliceAt, Instr.slice, Instr.sliceBounds, Instr.sliceBound, hx, hl', hh', hm', asIntOf, run_underlying hu, sizeOf, typeInfo, hie, c1, c2, c3, c4, c5, c6, d1, d2, d3, d4]
              · exact hh.elim
            · exact hh.elim
          · exact hh.elim
        · rename_i hi
          unfold boundV at hh
          split at hh
          · rename_i k2 h' hh'
            split at hh
            · rename_i k3 m' hm'
              obtain ⟨c1, c2, c3, c4, c5, c6, hK⟩ := hh
              refine ⟨_, hK, ?_⟩
              simp only [QVal, ho]
              intro w
              have d1 : max m' 0 = m' := by omega
              have d2 : max h' 0 = h' := by omega
              have d3 : ¬ m' < h' := by omega
              simp [execOp, ho, Instr.sliceAt, Instr.slice, Instr.sliceBounds, Instr.sliceBound, hx, hh', hm', asIntOf, run_underlying hu, sizeOf, typeInfo, hie, c1, c2, c3, c4, d1, d2, d3]
            · exact hh.elim
          · exact hh.elim
        · exact hh.elim
      · exact hh.elim
    · exact hh.elim
  · rename_i t l c ho; simp [isQuiet, ho] at hq
  · rename_i c ho
    unfold callVC at hh
    split at hh
    · rename_i g hc; simp [isQuiet, ho, hc] at hq
      obtain ⟨callee, args, tys⟩ := c
      simp only at hc; subst hc; simp at hq
    · rename_i t hc
      obtain ⟨callee, args, tys⟩ := c
      simp only at hc; subst hc; simp [isQuiet, ho] at hq
    · rename_i b hc
      obtain ⟨callee, args, tys⟩ := c
      simp only at hc; subst hc
      split at hh
      · simp [isQuiet, ho] at hq
      · simp [isQuiet, ho] at hq
      · simp [isQuiet, ho] at hq
      all_goals first
        | exact False.elim hh
        | (obtain ⟨v, hK, hr⟩ := gen_quiet hh; exact ⟨v, hK, by simp only [QVal, ho]; exact hr⟩)
    · exact hh.elim
  · rename_i t ho; simp [isQuiet, ho] at hq
  · rename_i t x ix ho; simp [isQuiet, ho] at hq
  · rename_i t m k x ho; simp [isQuiet, ho] at hq
  · rename_i t ho; simp [isQuiet, ho] at hq
  · rename_i t x ho; simp [isQuiet, ho] at hq
  · rename_i t n ps ho; simp [isQuiet, ho] at hq
  all_goals first
    | exact False.elim hh
    | (rename_i ho; obtain ⟨v, hK, hr⟩ := gen_quiet hh; exact ⟨v, hK, by simp only [QVal, ho]; exact hr⟩)

end sound
end Go.Sx
