/-
  The search of dpll in plain form: its models are those in which the formula holds. No program here.
-/
import Derived.Test.YtfadkgkkbbcekaaFoR
set_option linter.unusedVariables false
set_option linter.unusedSimpArgs false
namespace Go.Dp
open Go Go.Cl Go.Fo

variable {v : Nat} {L L' o c : List Int} {cs : List (List Int)} {x y : Int} {m : List Bool}

theorem nzI (h : InV v cs) : ∀ c ∈ cs, ∀ y ∈ c, y ≠ 0 := fun c hc y hy => (rt_iff.1 (h c hc y hy).1).1

theorem look_spec : ∀ (cs : List (List Int)) (i : Nat) (next : Int), (∀ c ∈ cs, ∀ y ∈ c, y ≠ 0) →
    (∃ j c, cs[j]? = some c ∧ (∀ y ∈ c, tv L y < 0) ∧ (∀ k, k < j → ∀ d, cs[k]? = some d → (lastP L d).2 ≠ 0) ∧ (lookGo L i next cs).1 = ((i + j : Nat) : Int)) ∨
      ((lookGo L i next cs).1 = -1 ∧ (∀ d ∈ cs, (lastP L d).2 ≠ 0) ∧
        ((next ≠ 0 ∧ (lookGo L i next cs).2 = next) ∨ (next = 0 ∧ ((∃ d ∈ cs, lastP L d = ((lookGo L i next cs).2, 1) ∧ (lookGo L i next cs).2 ≠ 0) ∨ ((lookGo L i next cs).2 = 0 ∧ ∀ d ∈ cs, (lastP L d).2 = 2)))))
  | [], i, next, _ => by
    refine .inr ⟨rfl, by simp, ?_⟩
    by_cases h : next = 0
    · exact .inr ⟨h, .inr ⟨h, by simp⟩⟩
    · exact .inl ⟨h, rfl⟩
  | c :: cs, i, next, h0 => by
    have hc := last0 (L := L) c (h0 c (by simp))
    unfold lookGo
    by_cases hz : (lastP L c).2 = 0
    · rw [if_pos hz]
      refine .inl ⟨0, c, rfl, ?_, by omega, rfl⟩
      rcases hc with ⟨e, ha⟩ | ⟨x, hx, hx0, ha, e⟩ | ⟨e, ha⟩
      · exact ha
      · rw [e] at hz; cases hz
      · rw [e] at hz; cases hz
    · rw [if_neg hz]
      rcases look_spec cs (i + 1) (if (lastP L c).2 = 1 ∧ next = 0 then (lastP L c).1 else next) (fun d hd => h0 d (by simp [hd])) with ⟨j, d, hj, ha, hk, e⟩ | ⟨e, ha, hn⟩
      · refine .inl ⟨j + 1, d, by simpa using hj, ha, fun k hk2 d' hd' => ?_, by rw [e]; congr 1; omega⟩
        cases k with
        | zero => simp at hd'; subst hd'; exact hz
        | succ k => exact hk k (by omega) d' (by simpa using hd')
      · refine .inr ⟨e, by simpa [hz] using ha, ?_⟩
        by_cases hn0 : next = 0
        · refine .inr ⟨hn0, ?_⟩
          by_cases h1 : (lastP L c).2 = 1
          · rw [if_pos ⟨h1, hn0⟩] at hn ⊢
            have hne : (lastP L c).1 ≠ 0 := by
              rcases hc with ⟨e, ha⟩ | ⟨x, hx, hx0, ha, e⟩ | ⟨e, ha⟩
              · rw [e] at h1; cases h1
              · rw [e]; exact h0 c (by simp) x hx
              · rw [e] at h1; cases h1
            rcases hn with ⟨_, e2⟩ | ⟨e2, _⟩
            · rw [e2]
              exact .inl ⟨c, by simp, Prod.ext rfl h1, hne⟩
            · exact absurd e2 hne
          · rw [if_neg (fun q => h1 q.1)] at hn ⊢
            rcases hn with ⟨hne, _⟩ | ⟨_, hn⟩
            · exact absurd hn0 hne
            · refine hn.imp (fun ⟨d, hd, q⟩ => ⟨d, by simp [hd], q⟩) fun ⟨q, hq⟩ => ⟨q, ?_⟩
              have h2 : (lastP L c).2 = 2 := by
                rcases hc with ⟨e, ha⟩ | ⟨x, hx, hx0, ha, e⟩ | ⟨e, ha⟩
                · rw [e] at hz; exact absurd rfl hz
                · rw [e] at h1; exact absurd rfl h1
                · rw [e]
              simpa [h2] using hq
        · rw [if_neg (fun q => hn0 q.2)] at hn ⊢
          rcases hn with ⟨hne, e2⟩ | ⟨e2, _⟩
          · exact .inl ⟨hne, e2⟩
          · exact absurd e2 hn0

theorem look_cases (h0 : ∀ c ∈ cs, ∀ y ∈ c, y ≠ 0) :
    (∃ (j : Nat) (c : List Int), cs[j]? = some c ∧ (∀ y ∈ c, tv L y < 0) ∧ (lookP L cs).1 = (j : Int)) ∨
      ((lookP L cs).1 = -1 ∧ (lookP L cs).2 ≠ 0 ∧ (∃ d ∈ cs, lastP L d = ((lookP L cs).2, 1)) ∧ ∀ d ∈ cs, (lastP L d).2 ≠ 0) ∨
      ((lookP L cs).1 = -1 ∧ (lookP L cs).2 = 0 ∧ ∀ d ∈ cs, (lastP L d).2 = 2) := by
  rcases look_spec (L := L) cs 0 0 h0 with ⟨j, c, hj, ha, _, e⟩ | ⟨e, ha, hn⟩
  · exact .inl ⟨j, c, hj, ha, by rw [show lookP L cs = lookGo L 0 0 cs from rfl, e]; congr 1; omega⟩
  · rcases hn with ⟨hne, _⟩ | ⟨_, ⟨d, hd, e2, e3⟩ | ⟨e2, h2⟩⟩
    · exact absurd rfl hne
    · exact .inr (.inl ⟨e, e3, ⟨d, hd, e2⟩, ha⟩)
    · exact .inr (.inr ⟨e, e2, h2⟩)

theorem unit_spec (h0 : ∀ y ∈ c, y ≠ 0) (e : lastP L c = (x, 1)) : x ∈ c ∧ tv L x = 0 ∧ ∀ y ∈ c, y = x ∨ tv L y < 0 := by
  rcases last0 (L := L) c h0 with ⟨e2, _⟩ | ⟨z, hz, hz0, ha, e2⟩ | ⟨e2, _⟩
  · rw [e2] at e; simp at e
  · rw [e2] at e; simp at e; subst e; exact ⟨hz, hz0, ha⟩
  · rw [e2] at e; simp at e

def Nw (v : Nat) : List Int → List Int → Prop
  | _, [] => True
  | L, x :: o => (tv L x = 0 ∧ rt x = true ∧ varL x ≤ v) ∧ Nw v (L ++ [x]) o

theorem Nw.asg : ∀ {o L : List Int}, Asg v L → Nw v L o → Asg v (L ++ o)
  | [], L, hA, _ => by simpa using hA
  | x :: o, L, hA, h => by
    have := Nw.asg (hA.snoc h.1.2.1 h.1.2.2 h.1.1) h.2
    simpa using this

theorem countP_lt {α : Type} {p q : α → Bool} : ∀ {l : List α}, (∀ a ∈ l, p a = true → q a = true) → (∃ a ∈ l, q a = true ∧ p a = false) → l.countP p < l.countP q
  | [], _, h => by obtain ⟨a, h, _⟩ := h; simp at h
  | b :: l, hpq, h => by
    have hle : l.countP p ≤ l.countP q := List.countP_mono_left fun a ha => hpq a (by simp [ha])
    obtain ⟨a, ha, hq, hp⟩ := h
    rcases List.mem_cons.1 ha with rfl | ha
    · rw [List.countP_cons_of_pos hq, List.countP_cons_of_neg (by simp [hp])]; omega
    · have ih := countP_lt (l := l) (fun a ha => hpq a (by simp [ha])) ⟨a, ha, hq, hp⟩
      by_cases hb : p b = true
      · rw [List.countP_cons_of_pos hb, List.countP_cons_of_pos (hpq b (by simp) hb)]; omega
      · rw [List.countP_cons_of_neg hb, List.countP_cons]; split <;> omega

def freeN (v : Nat) (L : List Int) : Nat := (List.range v).countP fun (k : Nat) => decide (tv L ((k : Int) + 1) = 0)
theorem freeN_le : freeN v L ≤ v := by unfold freeN; have := List.countP_le_length (p := fun (k : Nat) => decide (tv L ((k : Int) + 1) = 0)) (l := List.range v); simpa using this
theorem freeN_snoc (hr : rt x = true) (hv : varL x ≤ v) (h0 : tv L x = 0) : freeN v (L ++ [x]) < freeN v L := by
  have hp := varL_pos hr
  have h1 := tv_zero.1 h0
  have hx := rt_iff.1 hr
  refine countP_lt (fun a ha h => ?_) ⟨(varL x - 1).toNat, by simp; omega, ?_, ?_⟩
  · have h2 := tv_zero.1 (of_decide_eq_true h)
    refine decide_eq_true (tv_zero.2 ⟨fun q => h2.1 (by simp [q]), fun q => h2.2 (by simp [q])⟩)
  · have e : (((varL x - 1).toNat : Nat) : Int) + 1 = varL x := by omega
    rw [e]
    refine decide_eq_true (tv_zero.2 ?_)
    rw [varL_abs hr]; split
    · exact ⟨h1.2, by rw [Int.neg_neg]; exact h1.1⟩
    · exact h1
  · have e : (((varL x - 1).toNat : Nat) : Int) + 1 = varL x := by omega
    rw [e]
    refine decide_eq_false fun q => ?_
    have q := tv_zero.1 q
    rw [varL_abs hr] at q
    split at q
    · exact q.2 (by rw [Int.neg_neg]; simp)
    · exact q.1 (by simp)
theorem freeN_app : ∀ {o L : List Int}, Nw v L o → freeN v (L ++ o) + o.length ≤ freeN v L
  | [], L, _ => by simp
  | x :: o, L, h => by
    have h1 := freeN_snoc h.1.2.1 h.1.2.2 h.1.1
    have h2 := freeN_app h.2
    rw [List.append_assoc] at h2
    simp only [List.length_cons, List.cons_append, List.nil_append] at h2 ⊢
    omega
theorem follow_spec (hi : InV v cs) : ∀ (k : Nat) (L : List Int), Nw v L (followGo cs k L).1 ∧
    (freeN v L < k → ((followGo cs k L).2 ≥ 0 ∧ (lookP (L ++ (followGo cs k L).1) cs).1 = (followGo cs k L).2) ∨ ((followGo cs k L).2 = -1 ∧ lookP (L ++ (followGo cs k L).1) cs = (-1, 0)))
  | 0, L => ⟨trivial, fun h => by omega⟩
  | k + 1, L => by
    unfold followGo
    by_cases h1 : (lookP L cs).1 ≥ 0
    · rw [if_pos h1]
      exact ⟨trivial, fun _ => .inl ⟨h1, by simp⟩⟩
    rw [if_neg h1]
    by_cases h2 : (lookP L cs).2 = 0
    · rw [if_pos h2]
      refine ⟨trivial, fun _ => .inr ⟨rfl, ?_⟩⟩
      rw [List.append_nil]
      rcases look_cases (L := L) (nzI hi) with ⟨j, c, _, _, e⟩ | ⟨e, hne, _⟩ | ⟨e, e2, _⟩
      · rw [e] at h1; omega
      · exact absurd h2 hne
      · exact Prod.ext e e2
    · rw [if_neg h2]
      rcases look_cases (L := L) (nzI hi) with ⟨j, c, _, _, e⟩ | ⟨e, hne, ⟨d, hd, e2⟩, _⟩ | ⟨e, e2, _⟩
      · rw [e] at h1; omega
      · obtain ⟨hx, hx0, ha⟩ := unit_spec ((nzI hi) d hd) e2
        obtain ⟨hr, hv⟩ := hi d hd _ hx
        obtain ⟨n1, n2⟩ := follow_spec hi k (L ++ [(lookP L cs).2])
        refine ⟨⟨⟨hx0, hr, hv⟩, n1⟩, fun hk => ?_⟩
        have := freeN_snoc hr hv hx0
        have := n2 (by omega)
        simpa using this
      · exact absurd e2 h2

theorem freeGo_spec : ∀ (n k : Nat), v + 1 ≤ n + k → k ≤ v + 1 → k ≤ freeGo v L n k ∧ freeGo v L n k ≤ v + 1 ∧ (∀ j, k ≤ j → j < freeGo v L n k → tv L (j : Int) ≠ 0) ∧ (freeGo v L n k ≤ v → tv L ((freeGo v L n k : Nat) : Int) = 0)
  | 0, k, h, hk => by
    unfold freeGo
    exact ⟨Nat.le_refl _, hk, fun j h1 h2 => by omega, fun h => by omega⟩
  | n + 1, k, h, hk => by
    unfold freeGo
    split
    · rename_i hc
      obtain ⟨a, b, c, d⟩ := freeGo_spec n (k + 1) (by omega) (by omega)
      refine ⟨by omega, b, fun j h1 h2 => ?_, d⟩
      rcases Nat.lt_or_ge k j with h3 | h3
      · exact c j h3 h2
      · have : j = k := by omega
        subst this; exact hc.2
    · rename_i hc
      refine ⟨Nat.le_refl _, hk, fun j h1 h2 => by omega, fun h2 => ?_⟩
      by_cases h3 : tv L (k : Int) = 0
      · exact h3
      · exact absurd ⟨h2, h3⟩ hc
theorem freeV_spec : 1 ≤ freeV v L ∧ freeV v L ≤ v + 1 ∧ (∀ j, 1 ≤ j → j < freeV v L → tv L (j : Int) ≠ 0) ∧ (freeV v L ≤ v → tv L ((freeV v L : Nat) : Int) = 0) := freeGo_spec (v + 1) 1 (by omega) (by omega)

theorem lit_pos {f : Nat} (h1 : 1 ≤ f) (h2 : f ≤ v) (hv : v ≤ 1048576) : rt (f : Int) = true ∧ varL (f : Int) ≤ v ∧ rt (-(f : Int)) = true ∧ varL (-(f : Int)) ≤ v := by
  have r1 : rt (f : Int) = true := rt_iff.2 (by omega)
  have r2 : rt (-(f : Int)) = true := rt_iff.2 (by omega)
  have : varL (f : Int) = f := by unfold varL; rw [if_pos r1, if_neg (by omega)]
  refine ⟨r1, by omega, r2, ?_⟩
  rw [varL_neg r1]; omega
theorem tv_neg0 (h : tv L x = 0) : tv L (-x) = 0 := tv_zero.2 (by have := tv_zero.1 h; exact ⟨this.2, by rw [Int.neg_neg]; exact this.1⟩)

theorem trace_guesses (hi : InV v cs) (hv : v ≤ 1048576) : ∀ (k : Nat) (L : List Int), ng (trace v cs k L) + 2 ≤ 2 ^ (freeN v L + 1)
  | 0, L => by
    have := Nat.pow_le_pow_right (show 0 < 2 by decide) (show 1 ≤ freeN v L + 1 by omega)
    simpa [trace, ng] using this
  | k + 1, L => by
    have h2 := Nat.pow_le_pow_right (show 0 < 2 by decide) (show 1 ≤ freeN v L + 1 by omega)
    unfold trace
    simp only
    split
    · simpa [ng] using h2
    split
    · simpa [ng] using h2
    rename_i hf
    obtain ⟨f1, f2, f3, f4⟩ := freeV_spec (v := v) (L := L ++ (followP v cs L).1)
    obtain ⟨r1, v1, r2, v2⟩ := lit_pos f1 (show freeV v (L ++ (followP v cs L).1) ≤ v by omega) hv
    have f4 := f4 (by omega)
    have a1 := freeN_snoc r1 v1 f4
    have a2 := freeN_snoc r2 v2 (tv_neg0 f4)
    have a3 := freeN_app (follow_spec hi (v + 1) L).1
    have b1 := trace_guesses hi hv k (L ++ (followP v cs L).1 ++ [-((freeV v (L ++ (followP v cs L).1) : Nat) : Int)])
    have b2 := trace_guesses hi hv k (L ++ (followP v cs L).1 ++ [((freeV v (L ++ (followP v cs L).1) : Nat) : Int)])
    have a3 : freeN v (L ++ (followP v cs L).1) ≤ freeN v L := by unfold followP; omega
    simp only [ng, ng_append]
    have c1 := Nat.pow_le_pow_right (show 0 < 2 by decide) (show freeN v (L ++ (followP v cs L).1 ++ [-((freeV v (L ++ (followP v cs L).1) : Nat) : Int)]) + 1 ≤ freeN v L by omega)
    have c2 := Nat.pow_le_pow_right (show 0 < 2 by decide) (show freeN v (L ++ (followP v cs L).1 ++ [((freeV v (L ++ (followP v cs L).1) : Nat) : Int)]) + 1 ≤ freeN v L by omega)
    rw [Nat.pow_succ]
    omega

end Go.Dp

set_option linter.unusedVariables false
set_option linter.unusedSimpArgs false
namespace Go.Dp
open Go Go.Cl Go.Fo

variable {v : Nat} {L L' o c : List Int} {cs : List (List Int)} {x y : Int} {m : List Bool}

theorem follow_cases (hi : InV v cs) (L : List Int) : ((followP v cs L).2 ≥ 0 ∧ (lookP (L ++ (followP v cs L).1) cs).1 = (followP v cs L).2) ∨ ((followP v cs L).2 = -1 ∧ lookP (L ++ (followP v cs L).1) cs = (-1, 0)) := by
  have h := freeN_le (v := v) (L := L)
  exact (follow_spec hi (v + 1) L).2 (by omega)
theorem follow_asg (hi : InV v cs) (hA : Asg v L) : Asg v (L ++ (followP v cs L).1) := (follow_spec hi (v + 1) L).1.asg hA

end Go.Dp
