/-
  What Search answers, and that the step it finds is right. No program here.
-/
import Derived.Test.YtjkgncibelojnaaRtQ
set_option linter.unusedVariables false
set_option linter.unusedSimpArgs false
namespace Go.Rt
open Go Go.Cl Go.Rp

variable {l : List Ent} {A B c : List Int} {p : Int}

theorem scan_ok {want : List Int} : ∀ {gs : List Grp} {last : Int}, (∀ g ∈ gs, g.1 ∈ want) → gs.Pairwise (fun x y => x.1 < y.1) → (∀ g ∈ gs, last < g.1) → scanG want last gs = (0, 0)
  | [], _, _, _, _ => rfl
  | g :: gs, last, h1, h2, h3 => by
    simp only [scanG]
    have a := h1 g (by simp)
    have b := h3 g (by simp)
    rw [if_neg (by rintro (h | h); exact h a; omega)]
    obtain ⟨c, d⟩ := List.pairwise_cons.1 h2
    exact scan_ok (fun x hx => h1 x (by simp [hx])) d c
theorem rightE_sorted (h : rightE l = true) : l.Pairwise (fun x y => x.1 < y.1) ∧ ∀ x ∈ l, 0 < x.1 := by
  unfold rightE at h
  rw [Bool.and_eq_true] at h
  have key : ∀ {l : List Ent} {last : Int}, rightGo last l = true → (∀ x ∈ l, last < x.1) ∧ l.Pairwise (fun x y => x.1 < y.1) := by
    intro l
    induction l with
    | nil => intro _ _; simp
    | cons y l ih =>
      intro last h
      simp only [rightGo, Bool.and_eq_true, decide_eq_true_eq] at h
      obtain ⟨a, b⟩ := ih h.2
      refine ⟨fun x hx => ?_, List.pairwise_cons.2 ⟨a, b⟩⟩
      rcases List.mem_cons.1 hx with rfl | hx
      · exact h.1.1.1
      · have := a x hx; omega
  exact ⟨(key h.1).2, (key h.1).1⟩

end Go.Rt
