/-
  Caches that are not right. No program here.
-/
import Derived.Test.YtchedlkmgahicaaCrQ
import Derived.Test.YtchedlkmgahicaaCrG
set_option linter.unusedVariables false
set_option linter.unusedSimpArgs false
namespace Go.Cr

theorem right_bad {l : List Ent} {x : Ent} (hx : x ∈ l) (hb : x.1 < 0 ∨ 16 ≤ x.1 ∨ x.2.2.1 < 0) : rightL l = false := by
  cases h : rightL l with
  | false => rfl
  | true =>
    exfalso
    simp only [rightL, Bool.and_eq_true] at h
    have := rightGo_mem h.1 x hx
    omega
theorem right_snoc {l : List Ent} {e : Int} (h : rightL l = true) (hl : l.length < 4096) (he : ∀ x ∈ l, x.2.2.1 ≤ e) (h0 : 0 ≤ e) : rightL (l ++ [(2, 0, e, ())]) = true := by
  simp only [rightL, Bool.and_eq_true, decide_eq_true_eq] at h ⊢
  obtain ⟨a, b⟩ := rightGo_iff.1 h.1
  refine ⟨rightGo_iff.2 ⟨fun x hx => ?_, List.pairwise_append.2 ⟨b, by simp, fun x hx y hy => ?_⟩⟩, by simp; omega⟩
  · rcases List.mem_append.1 hx with hx | hx
    · exact a x hx
    · simp only [List.mem_singleton] at hx; subst hx; exact ⟨(show (0 : Int) ≤ 2 by decide), (show (2 : Int) < 16 by decide), h0⟩
  · simp only [List.mem_singleton] at hy; subst hy; exact he x hx
end Go.Cr
namespace Go.Proofs.S
open Go Go.Cr
theorem madeGo_max : ∀ (e : Int) (l : List Int), ∀ x ∈ madeGo e l, x.2.2.1 ≤ madeE e l
  | e, [], x, h => by simp [madeGo] at h
  | e, n :: l, x, h => by
    simp only [madeGo, List.mem_cons] at h
    unfold madeE
    rcases h with rfl | h
    · exact (madeE_le _ l).1
    · exact madeGo_max _ l x h
theorem madeL_max {c : List Int} {most : Nat} : ∀ x ∈ madeL c most, x.2.2.1 ≤ most := fun x hx => by
  have h1 := madeGo_max 0 (c.take most) x hx
  have h2 := (madeE_le 0 (c.take most)).2
  rw [List.length_take] at h2
  omega
end Go.Proofs.S

set_option linter.unusedVariables false
set_option linter.unusedSimpArgs false
namespace Go.Proofs.S
open Go Go.Sx Go.Proofs Go.Cr Go.Cl

variable {h : Heap} {l : List Ent} {k k2 : List Bool} {m m2 : List Int} {s s2 s3 : Sl} {fr : Fr} {G As : List Asn}

theorem Hs.zero {K : HP} (st : Hs fr G As h) (kt : Nat) (hkt : As[kt]? = some (ob k s)) (hl : k.length ≤ 1099511627776) (hK : ∀ k' h', k'.length = k.length → Hs fr G (As.set kt (ob k' s)) h' → K h') :
    lfp (σ := (Int × Unit)) (fun X s26 => brB (decide (s26.1 < (s.len : Int))) (sx s.a s.len s26.1 1 fun p27 => st1 p27 (.bool false) <| X ((IntKind.wrap .i64 (s26.1 + (1 : Int))), ())) K) ((0 : Int), ()) h := by
  have l1 := osl_len (st.own kt hkt)
  have hktl := (List.getElem?_eq_some_iff.1 hkt).1
  refine lfp_invh (I := fun μ σ h' => ∃ (i : Nat) (k' : List Bool), σ = ((i : Int), ()) ∧ i ≤ k.length ∧ k'.length = k.length ∧ Hs fr G (As.set kt (ob k' s)) h' ∧ μ = k.length - i) ⟨_, 0, k, rfl, by omega, rfl, ?_, rfl⟩ ?_
  · have e : As.set kt (ob k s) = As := by
      apply List.ext_getElem?
      intro j
      rw [List.getElem?_set]
      by_cases q : kt = j
      · subst q; rw [if_pos rfl, if_pos hktl, hkt]
      · rw [if_neg q]
    rw [e]; exact st
  · rintro μ σ h2 X ⟨i, k', rfl, hi, hk', st, em⟩ hX
    simp only
    by_cases hlt : i < k.length
    · rw [decide_eq_true (show (i : Int) < (s.len : Int) by omega), brB_true, inc_i (show i < 4611686018427387904 by omega)]
      refine st.wrE (τ := .bool) kt (by rw [List.getElem?_set, if_pos rfl, if_pos hktl]) (show i < k'.length by omega) false fun h3 st => ?_
      rw [List.set_set] at st
      exact hX _ _ _ ⟨i + 1, k'.set i false, rfl, by omega, by simpa using hk', st, rfl⟩ (by omega)
    · rw [decide_eq_false (show ¬ (i : Int) < (s.len : Int) by omega), brB_false]
      exact hK k' h2 hk' st

end Go.Proofs.S
