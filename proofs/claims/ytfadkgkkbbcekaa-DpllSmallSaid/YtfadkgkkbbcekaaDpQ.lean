/-
  The search of dpll in plain form: its models are those in which the formula holds. No program here.
-/
import Derived.Test.YtfadkgkkbbcekaaFoR
set_option linter.unusedVariables false
set_option linter.unusedSimpArgs false
namespace Go.Dp
open Go Go.Cl Go.Fo

variable {v : Nat} {L L' o c : List Int} {cs : List (List Int)} {x y : Int} {m : List Bool}

theorem nzI (h : InV v cs) : ∀ c ∈ cs, ∀ y ∈ c, y ≠ 0 := fun c hc y hy => (rt_iff.1 (h c hc y hy).1).1

theorem look_spec : ∀ (cs : List (List Int)) (i : Nat) (next : Int), (∀ c ∈ cs, ∀ y ∈ c, y ≠ 0) →
    (∃ j c, cs[j]? = some c ∧ (∀ y ∈ c, tv L y < 0) ∧ (∀ k, k < j → ∀ d, cs[k]? = some d → (lastP L d).2 ≠ 0) ∧ (lookGo L i next cs).1 = ((i + j : Nat) : Int)) ∨
      ((lookGo L i next cs).1 = -1 ∧ (∀ d ∈ cs, (lastP L d).2 ≠ 0) ∧
        ((next ≠ 0 ∧ (lookGo L i next cs).2 = next) ∨ (next = 0 ∧ ((∃ d ∈ cs, lastP L d = ((lookGo L i next cs).2, 1) ∧ (lookGo L i next cs).2 ≠ 0) ∨ ((lookGo L i next cs).2 = 0 ∧ ∀ d ∈ cs, (lastP L d).2 = 2)))))
  | [], i, next, _ => by
    refine .inr ⟨rfl, by simp, ?_⟩
    by_cases h : next = 0
    · exact .inr ⟨h, .inr ⟨h, by simp⟩⟩
    · exact .inl ⟨h, rfl⟩
  | c :: cs, i, next, h0 => by
    have hc := last0 (L := L) c (h0 c (by simp))
    unfold lookGo
    by_cases hz : (lastP L c).2 = 0
    · rw [if_pos hz]
      refine .inl ⟨0, c, rfl, ?_, by omega, rfl⟩
      rcases hc with ⟨e, ha⟩ | ⟨x, hx, hx0, ha, e⟩ | ⟨e, ha⟩
      · exact ha
      · rw [e] at hz; cases hz
      · rw [e] at hz; cases hz
    · rw [if_neg hz]
      rcases look_spec cs (i + 1) (if (lastP L c).2 = 1 ∧ next = 0 then (lastP L c).1 else next) (fun d hd => h0 d (by simp [hd])) with ⟨j, d, hj, ha, hk, e⟩ | ⟨e, ha, hn⟩
      · refine .inl ⟨j + 1, d, by simpa using hj, ha, fun k hk2 d' hd' => ?_, by rw [e]; congr 1; omega⟩
        cases k with
        | zero => simp at hd'; subst hd'; exact hz
        | succ k => exact hk k (by omega) d' (by simpa using hd')
      · refine .inr ⟨e, by simpa [hz] using ha, ?_⟩
        by_cases hn0 : next = 0
        · refine .inr ⟨hn0, ?_⟩
          by_cases h1 : (lastP L c).2 = 1
          · rw [if_pos ⟨h1, hn0⟩] at hn ⊢
            have hne : (lastP L c).1 ≠ 0 := by
              rcases hc with ⟨e, ha⟩ | ⟨x, hx, hx0, ha, e⟩ | ⟨e, ha⟩
              · rw [e] at h1; cases h1
              · rw [e]; exact h0 c (by simp) x hx
              · rw [e] at h1; cases h1
            rcases hn with ⟨_, e2⟩ | ⟨e2, _⟩
            · rw [e2]
              exact .inl ⟨c, by simp, Prod.ext rfl h1, hne⟩
            · exact absurd e2 hne
          · rw [if_neg (fun q => h1 q.1)] at hn ⊢
            rcases hn with ⟨hne, _⟩ | ⟨_, hn⟩
            · exact absurd hn0 hne
            · refine hn.imp (fun ⟨d, hd, q⟩ => ⟨d, by simp [hd], q⟩) fun ⟨q, hq⟩ => ⟨q, ?_⟩
              have h2 : (lastP L c).2 = 2 := by
                rcases hc with ⟨e, ha⟩ | ⟨x, hx, hx0, ha, e⟩ | ⟨e, ha⟩
                · rw [e] at hz; exact absurd rfl hz
                · rw [e] at h1; exact absurd rfl h1
                · rw [e]
              simpa [h2] using hq
        · rw [if_neg (fun q => hn0 q.2)] at hn ⊢
          rcases hn with ⟨hne, e2⟩ | ⟨e2, _⟩
          · exact .inl ⟨hne, e2⟩
          · exact absurd e2 hn0

theorem look_cases (h0 : ∀ c ∈ cs, ∀ y ∈ c, y ≠ 0) :
    (∃ (j : Nat) (c : List Int), cs[j]? = some c ∧ (∀ y ∈ c, tv L y < 0) ∧ (lookP L cs).1 = (j : Int)) ∨
      ((lookP L cs).1 = -1 ∧ (lookP L cs).2 ≠ 0 ∧ (∃ d ∈ cs, lastP L d = ((lookP L cs).2, 1)) ∧ ∀ d ∈ cs, (lastP L d).2 ≠ 0) ∨
      ((lookP L cs).1 = -1 ∧ (lookP L cs).2 = 0 ∧ ∀ d ∈ cs, (lastP L d).2 = 2) := by
  rcases look_spec (L := L) cs 0 0 h0 with ⟨j, c, hj, ha, _, e⟩ | ⟨e, ha, hn⟩
  · exact .inl ⟨j, c, hj, ha, by rw [show lookP L cs = lookGo L 0 0 cs from rfl, e]; congr 1; omega⟩
  · rcases hn with ⟨hne, _⟩ | ⟨_, ⟨d, hd, e2, e3⟩ | ⟨e2, h2⟩⟩
    · exact absurd rfl hne
    · exact .inr (.inl ⟨e, e3, ⟨d, hd, e2⟩, ha⟩)
    · exact .inr (.inr ⟨e, e2, h2⟩)

theorem unit_spec (h0 : ∀ y ∈ c, y ≠ 0) (e : lastP L c = (x, 1)) : x ∈ c ∧ tv L x = 0 ∧ ∀ y ∈ c, y = x ∨ tv L y < 0 := by
  rcases last0 (L := L) c h0 with ⟨e2, _⟩ | ⟨z, hz, hz0, ha, e2⟩ | ⟨e2, _⟩
  · rw [e2] at e; simp at e
  · rw [e2] at e; simp at e; subst e; exact ⟨hz, hz0, ha⟩
  · rw [e2] at e; simp at e

def Nw (v : Nat) : List Int → List Int → Prop
  | _, [] => True
  | L, x :: o => (tv L x = 0 ∧ rt x = true ∧ varL x ≤ v) ∧ Nw v (L ++ [x]) o

theorem Nw.asg : ∀ {o L : List Int}, Asg v L → Nw v L o → Asg v (L ++ o)
  | [], L, hA, _ => by simpa using hA
  | x :: o, L, hA, h => by
    have := Nw.asg (hA.snoc h.1.2.1 h.1.2.2 h.1.1) h.2
    simpa using this

theorem countP_lt {α : Type} {p q : α → Bool} : ∀ {l : List α}, (∀ a ∈ l, p a = true → q a = true) → (∃ a ∈ l, q a = true ∧ p a = false) → l.countP p < l.countP q
  | [], _, h => by obtain ⟨a, h, _⟩ := h; simp at h
  | b :: l, hpq, h => by
    have hle : l.countP p ≤ l.countP q := List.countP_mono_left fun a ha => hpq a (by simp [ha])
    obtain ⟨a, ha, hq, hp⟩ := h
    rcases List.mem_cons.1 ha with rfl | ha
    · rw [List.countP_cons_of_pos hq, List.countP_cons_of_neg (by simp [hp])]; omega
    · have ih := countP_lt (l := l) (fun a ha => hpq a (by simp [ha])) ⟨a, ha, hq, hp⟩
      by_cases hb : p b = true
      · rw [List.countP_cons_of_pos hb, List.countP_cons_of_pos (hpq b (by simp) hb)]; omega
      · rw [List.countP_cons_of_neg hb, List.countP_cons]; split <;> omega

def freeN (v : Nat) (L : List Int) : Nat := (List.range v).countP fun (k : Nat) => decide (tv L ((k : Int) + 1) = 0)
theorem freeN_le : freeN v L ≤ v := by unfold freeN; have := List.countP_le_length (p := fun (k : Nat) => decide (tv L ((k : Int) + 1) = 0)) (l := List.range v); simpa using this
theorem freeN_snoc (hr : rt x = true) (hv : varL x ≤ v) (h0 : tv L x = 0) : freeN v (L ++ [x]) < freeN v L := by
  have hp := varL_pos hr
  have h1 := tv_zero.1 h0
  have hx := rt_iff.1 hr
  refine countP_lt (fun a ha h => ?_) ⟨(varL x - 1).toNat, by simp; omega, ?_, ?_⟩
  · have h2 := tv_zero.1 (of_decide_eq_true h)
    refine decide_eq_true (tv_zero.2 ⟨fun q => h2.1 (by simp [q]), fun q => h2.2 (by simp [q])⟩)
  · have e : (((varL x - 1).toNat : Nat) : Int) + 1 = varL x := by omega
    rw [e]
    refine decide_eq_true (tv_zero.2 ?_)
    rw [varL_abs hr]; split
    · exact ⟨h1.2, by rw [Int.neg_neg]; exact h1.1⟩
    · exact h1
  · have e : (((varL x - 1).toNat : Nat) : Int) + 1 = varL x := by omega
    rw [e]
    refine decide_eq_false fun q => ?_
    have q := tv_zero.1 q
    rw [varL_abs hr] at q
    split at q
    · exact q.2 (by rw [Int.neg_neg]; simp)
    · exact q.1 (by simp)
theorem freeN_app : ∀ {o L : List Int}, Nw v L o → freeN v (L ++ o) + o.length ≤ freeN v L
  | [], L, _ => by simp
  | x :: o, L, h => by
    have h1 := freeN_snoc h.1.2.1 h.1.2.2 h.1.1
    have h2 := freeN_app h.2
    rw [List.append_assoc] at h2
    simp only [List.length_cons, List.cons_append, List.nil_append] at h2 ⊢
    omega
theorem follow_spec (hi : InV v cs) : ∀ (k : Nat) (L : List Int), Nw v L (followGo cs k L).1 ∧
    (freeN v L < k → ((followGo cs k L).2 ≥ 0 ∧ (lookP (L ++ (followGo cs k L).1) cs).1 = (followGo cs k L).2) ∨ ((followGo cs k L).2 = -1 ∧ lookP (L ++ (followGo cs k L).1) cs = (-1, 0)))
  | 0, L => ⟨trivial, fun h => by omega⟩
  | k + 1, L => by
    unfold followGo
    by_cases h1 : (lookP L cs).1 ≥ 0
    · rw [if_pos h1]
      exact ⟨trivial, fun _ => .inl ⟨h1, by simp⟩⟩
    rw [if_neg h1]
    by_cases h2 : (lookP L cs).2 = 0
    · rw [if_pos h2]
      refine ⟨trivial, fun _ => .inr ⟨rfl, ?_⟩⟩
      rw [List.append_nil]
      rcases look_cases (L := L) (nzI hi) with ⟨j, c, _, _, e⟩ | ⟨e, hne, _⟩ | ⟨e, e2, _⟩
      · rw [e] at h1; omega
      · exact absurd h2 hne
      · exact Prod.ext e e2
    · rw [if_neg h2]
      rcases look_cases (L := L) (nzI hi) with ⟨j, c, _, _, e⟩ | ⟨e, hne, ⟨d, hd, e2⟩, _⟩ | ⟨e, e2, _⟩
      · rw [e] at h1; omega
      · obtain ⟨hx, hx0, ha⟩ := unit_spec ((nzI hi) d hd) e2
        obtain ⟨hr, hv⟩ := hi d hd _ hx
        obtain ⟨n1, n2⟩ := follow_spec hi k (L ++ [(lookP L cs).2])
        refine ⟨⟨⟨hx0, hr, hv⟩, n1⟩, fun hk => ?_⟩
        have := freeN_snoc hr hv hx0
        have := n2 (by omega)
        simpa using this
      · exact absurd e2 h2

theorem look_true (hi : InV v cs) (hA : Asg v L) (hm : hold cs m = true) (ha : L.all (tru m) = true) (h1 : ¬ (lookP L cs).1 ≥ 0) (h2 : (lookP L cs).2 ≠ 0) : tru m (lookP L cs).2 = true := by
  rcases look_cases (L := L) (nzI hi) with ⟨j, c, _, _, e⟩ | ⟨e, hne, ⟨d, hd, e2⟩, _⟩ | ⟨e, e2, _⟩
  · rw [e] at h1; omega
  · obtain ⟨hx, hx0, hall⟩ := unit_spec ((nzI hi) d hd) e2
    obtain ⟨y, hy, hty⟩ := List.any_eq_true.1 (List.all_eq_true.1 hm d hd)
    rcases hall y hy with rfl | hn
    · exact hty
    · have := List.all_eq_true.1 ha _ ((tv_neg_lt hA).1 hn)
      rw [tru_neg (hi d hd y hy).1, hty] at this
      cases this
  · exact absurd e2 h2
theorem follow_true (hi : InV v cs) : ∀ (k : Nat) (L : List Int), Asg v L → hold cs m = true → L.all (tru m) = true → (followGo cs k L).1.all (tru m) = true
  | 0, L, _, _, _ => rfl
  | k + 1, L, hA, hm, ha => by
    unfold followGo
    by_cases h1 : (lookP L cs).1 ≥ 0
    · rw [if_pos h1]; rfl
    rw [if_neg h1]
    by_cases h2 : (lookP L cs).2 = 0
    · rw [if_pos h2]; rfl
    rw [if_neg h2]
    have ht := look_true hi hA hm ha h1 h2
    have hA2 : Asg v (L ++ [(lookP L cs).2]) := by
      have := (follow_spec hi 1 L).1
      unfold followGo at this
      rw [if_neg h1, if_neg h2] at this
      exact hA.snoc this.1.2.1 this.1.2.2 this.1.1
    have := follow_true hi k (L ++ [(lookP L cs).2]) hA2 hm (by simp only [List.all_append, List.all_cons, List.all_nil, Bool.and_true, Bool.and_eq_true]; exact ⟨ha, ht⟩)
    show List.all (_ :: _) _ = true
    rw [List.all_cons, ht, this]; rfl
theorem bad_false (hi : InV v cs) (hA : Asg v L) (hb : (lookP L cs).1 ≥ 0) (ha : L.all (tru m) = true) : hold cs m = false := by
  rcases look_cases (L := L) (nzI hi) with ⟨j, c, hj, hall, e⟩ | ⟨e, _⟩ | ⟨e, _⟩
  · have hc := List.mem_of_getElem? hj
    rw [Bool.eq_false_iff]
    intro hm
    obtain ⟨y, hy, hty⟩ := List.any_eq_true.1 (List.all_eq_true.1 hm c hc)
    have := List.all_eq_true.1 ha _ ((tv_neg_lt hA).1 (hall y hy))
    rw [tru_neg (hi c hc y hy).1, hty] at this
    cases this
  · omega
  · omega

theorem freeGo_spec : ∀ (n k : Nat), v + 1 ≤ n + k → k ≤ v + 1 → k ≤ freeGo v L n k ∧ freeGo v L n k ≤ v + 1 ∧ (∀ j, k ≤ j → j < freeGo v L n k → tv L (j : Int) ≠ 0) ∧ (freeGo v L n k ≤ v → tv L ((freeGo v L n k : Nat) : Int) = 0)
  | 0, k, h, hk => by
    unfold freeGo
    exact ⟨Nat.le_refl _, hk, fun j h1 h2 => by omega, fun h => by omega⟩
  | n + 1, k, h, hk => by
    unfold freeGo
    split
    · rename_i hc
      obtain ⟨a, b, c, d⟩ := freeGo_spec n (k + 1) (by omega) (by omega)
      refine ⟨by omega, b, fun j h1 h2 => ?_, d⟩
      rcases Nat.lt_or_ge k j with h3 | h3
      · exact c j h3 h2
      · have : j = k := by omega
        subst this; exact hc.2
    · rename_i hc
      refine ⟨Nat.le_refl _, hk, fun j h1 h2 => by omega, fun h2 => ?_⟩
      by_cases h3 : tv L (k : Int) = 0
      · exact h3
      · exact absurd ⟨h2, h3⟩ hc
theorem freeV_spec : 1 ≤ freeV v L ∧ freeV v L ≤ v + 1 ∧ (∀ j, 1 ≤ j → j < freeV v L → tv L (j : Int) ≠ 0) ∧ (freeV v L ≤ v → tv L ((freeV v L : Nat) : Int) = 0) := freeGo_spec (v + 1) 1 (by omega) (by omega)

theorem lit_pos {f : Nat} (h1 : 1 ≤ f) (h2 : f ≤ v) (hv : v ≤ 1048576) : rt (f : Int) = true ∧ varL (f : Int) ≤ v ∧ rt (-(f : Int)) = true ∧ varL (-(f : Int)) ≤ v := by
  have r1 : rt (f : Int) = true := rt_iff.2 (by omega)
  have r2 : rt (-(f : Int)) = true := rt_iff.2 (by omega)
  have : varL (f : Int) = f := by unfold varL; rw [if_pos r1, if_neg (by omega)]
  refine ⟨r1, by omega, r2, ?_⟩
  rw [varL_neg r1]; omega
theorem tv_neg0 (h : tv L x = 0) : tv L (-x) = 0 := tv_zero.2 (by have := tv_zero.1 h; exact ⟨this.2, by rw [Int.neg_neg]; exact this.1⟩)

theorem trace_guesses (hi : InV v cs) (hv : v ≤ 1048576) : ∀ (k : Nat) (L : List Int), ng (trace v cs k L) + 2 ≤ 2 ^ (freeN v L + 1)
  | 0, L => by
    have := Nat.pow_le_pow_right (show 0 < 2 by decide) (show 1 ≤ freeN v L + 1 by omega)
    simpa [trace, ng] using this
  | k + 1, L => by
    have h2 := Nat.pow_le_pow_right (show 0 < 2 by decide) (show 1 ≤ freeN v L + 1 by omega)
    unfold trace
    simp only
    split
    · simpa [ng] using h2
    split
    · simpa [ng] using h2
    rename_i hf
    obtain ⟨f1, f2, f3, f4⟩ := freeV_spec (v := v) (L := L ++ (followP v cs L).1)
    obtain ⟨r1, v1, r2, v2⟩ := lit_pos f1 (show freeV v (L ++ (followP v cs L).1) ≤ v by omega) hv
    have f4 := f4 (by omega)
    have a1 := freeN_snoc r1 v1 f4
    have a2 := freeN_snoc r2 v2 (tv_neg0 f4)
    have a3 := freeN_app (follow_spec hi (v + 1) L).1
    have b1 := trace_guesses hi hv k (L ++ (followP v cs L).1 ++ [-((freeV v (L ++ (followP v cs L).1) : Nat) : Int)])
    have b2 := trace_guesses hi hv k (L ++ (followP v cs L).1 ++ [((freeV v (L ++ (followP v cs L).1) : Nat) : Int)])
    have a3 : freeN v (L ++ (followP v cs L).1) ≤ freeN v L := by unfold followP; omega
    simp only [ng, ng_append]
    have c1 := Nat.pow_le_pow_right (show 0 < 2 by decide) (show freeN v (L ++ (followP v cs L).1 ++ [-((freeV v (L ++ (followP v cs L).1) : Nat) : Int)]) + 1 ≤ freeN v L by omega)
    have c2 := Nat.pow_le_pow_right (show 0 < 2 by decide) (show freeN v (L ++ (followP v cs L).1 ++ [((freeV v (L ++ (followP v cs L).1) : Nat) : Int)]) + 1 ≤ freeN v L by omega)
    rw [Nat.pow_succ]
    omega

end Go.Dp

set_option linter.unusedVariables false
set_option linter.unusedSimpArgs false
namespace Go.Dp
open Go Go.Cl Go.Fo

variable {v : Nat} {L L' o c : List Int} {cs : List (List Int)} {x y : Int} {m : List Bool}

def under (v : Nat) (cs : List (List Int)) (L : List Int) : List (List Bool) := (Cr.allB v).filter fun m => L.all (tru m) && hold cs m

theorem filter_split {α : Type} {q : α → Bool} : ∀ {l : List α}, l.Pairwise (fun a b => q a = true → q b = true) → l = l.filter (fun a => !q a) ++ l.filter q
  | [], _ => rfl
  | a :: l, h => by
    obtain ⟨h1, h2⟩ := List.pairwise_cons.1 h
    have ih := filter_split h2
    by_cases hq : q a = true
    · have hall : ∀ b ∈ l, q b = true := fun b hb => h1 b hb hq
      rw [List.filter_cons_of_neg (by simp [hq]), List.filter_cons_of_pos hq]
      have e1 : l.filter (fun a => !q a) = [] := List.filter_eq_nil_iff.2 fun b hb => by simp [hall b hb]
      have e2 : l.filter q = l := List.filter_eq_self.2 hall
      rw [e1, e2]; rfl
    · rw [List.filter_cons_of_pos (by simpa using hq), List.filter_cons_of_neg hq, List.cons_append, ← ih]

theorem under_follow (hi : InV v cs) (hA : Asg v L) : under v cs (L ++ (followP v cs L).1) = under v cs L := by
  unfold under
  refine List.filter_congr fun m _ => ?_
  rw [List.all_append]
  cases h1 : L.all (tru m) with
  | false => simp
  | true =>
    cases h2 : hold cs m with
    | false => simp
    | true =>
      have := follow_true hi (v + 1) L hA h2 h1
      rw [show followGo cs (v + 1) L = followP v cs L from rfl] at this
      simp [this]

theorem follow_cases (hi : InV v cs) (L : List Int) : ((followP v cs L).2 ≥ 0 ∧ (lookP (L ++ (followP v cs L).1) cs).1 = (followP v cs L).2) ∨ ((followP v cs L).2 = -1 ∧ lookP (L ++ (followP v cs L).1) cs = (-1, 0)) := by
  have h := freeN_le (v := v) (L := L)
  exact (follow_spec hi (v + 1) L).2 (by omega)
theorem follow_asg (hi : InV v cs) (hA : Asg v L) : Asg v (L ++ (followP v cs L).1) := (follow_spec hi (v + 1) L).1.asg hA

theorem tru_at (hr : rt x = true) (hm : m.length = v) (hv : varL x ≤ v) : ∃ b, m[(varL x - 1).toNat]? = some b ∧ tru m x = (b != decide (x < 0)) := by
  have hp := varL_pos hr
  have hlt : (varL x - 1).toNat < m.length := by omega
  refine ⟨m[(varL x - 1).toNat], List.getElem?_eq_getElem hlt, ?_⟩
  unfold tru
  rw [List.getElem?_eq_getElem hlt]; rfl

theorem K_some {m : List Bool} {i : Nat} (h : i < m.length) : m[i]? = some (Cr.K m i) := by
  unfold Cr.K
  rw [List.getD_eq_getElem?_getD, List.getElem?_eq_getElem h]; rfl

theorem same_at {a b : List Bool} (hA : Asg v L) (ha : L.all (tru a) = true) (hb : L.all (tru b) = true) (la : a.length = v) (lb : b.length = v) {j : Nat} (h1 : 1 ≤ j) (hj : j ≤ v) (hv : v ≤ 1048576) (h : tv L (j : Int) ≠ 0) : Cr.K a (j - 1) = Cr.K b (j - 1) := by
  have hor : (j : Int) ∈ L ∨ -(j : Int) ∈ L := by
    by_cases h3 : (j : Int) ∈ L
    · exact .inl h3
    · by_cases h4 : -(j : Int) ∈ L
      · exact .inr h4
      · exact absurd (tv_zero.2 ⟨h3, h4⟩) h
  obtain ⟨r1, _, r2, _⟩ := lit_pos h1 hj hv
  have e1 : varL (j : Int) = j := by unfold varL; rw [if_pos r1, if_neg (by omega)]
  have key : ∀ x : Int, x ∈ L → rt x = true → varL x = j → Cr.K a (j - 1) = Cr.K b (j - 1) := fun x hx hr e => by
    have ta := List.all_eq_true.1 ha x hx
    have tb := List.all_eq_true.1 hb x hx
    unfold tru at ta tb
    have e2 : (varL x - 1).toNat = j - 1 := by omega
    rw [e2, K_some (show j - 1 < a.length by omega)] at ta
    rw [e2, K_some (show j - 1 < b.length by omega)] at tb
    simp only [Option.getD_some] at ta tb
    cases hc : Cr.K a (j - 1) <;> cases hd : Cr.K b (j - 1) <;> rw [hc] at ta <;> rw [hd] at tb <;> cases hx : decide (x < 0) <;> rw [hx] at ta tb <;> simp_all
  rcases hor with h3 | h3
  · exact key _ h3 r1 e1
  · exact key _ h3 r2 (by rw [varL_neg r1]; exact e1)

theorem under_guess (hA : Asg v L) (hv : v ≤ 1048576) (hf : freeV v L ≤ v) : under v cs L = under v cs (L ++ [-((freeV v L : Nat) : Int)]) ++ under v cs (L ++ [((freeV v L : Nat) : Int)]) := by
  obtain ⟨f1, f2, f3, f4⟩ := freeV_spec (v := v) (L := L)
  obtain ⟨r1, v1, r2, v2⟩ := lit_pos f1 hf hv
  have f4 := f4 hf
  generalize freeV v L = f at *
  have e1 : varL (f : Int) = f := by unfold varL; rw [if_pos r1, if_neg (by omega)]
  have hs : (under v cs L).Pairwise fun a b => tru a (f : Int) = true → tru b (f : Int) = true := by
    refine List.Pairwise.imp_of_mem ?_ ((Cr.allB_sorted v).filter _)
    intro a b ha hb hlt hta
    obtain ⟨ha, ha2⟩ := List.mem_filter.1 ha
    obtain ⟨hb, hb2⟩ := List.mem_filter.1 hb
    simp only [Bool.and_eq_true] at ha2 hb2
    have la := Cr.mem_allB.1 ha
    have lb := Cr.mem_allB.1 hb
    obtain ⟨i, hi, ht, ka, kb⟩ := (Cr.ltB_iff (by rw [la, lb])).1 hlt
    have truK : ∀ {m : List Bool}, m.length = v → tru m (f : Int) = Cr.K m (f - 1) := fun {m} lm => by
      unfold tru
      rw [e1, show ((f : Int) - 1).toNat = f - 1 by omega, K_some (show f - 1 < m.length by omega), decide_eq_false (by omega)]
      simp
    rw [truK la] at hta
    rw [truK lb]
    rcases Nat.lt_trichotomy i (f - 1) with h | h | h
    · exfalso
      have := same_at hA ha2.1 hb2.1 la lb (j := i + 1) (by omega) (by omega) hv (f3 (i + 1) (by omega) (by omega))
      rw [Nat.add_sub_cancel, ka, kb] at this
      cases this
    · rw [← h]; exact kb
    · have e2 : a[f - 1]? = b[f - 1]? := by
        have := congrArg (fun l => l[f - 1]?) ht
        simpa [List.getElem?_take, h] using this
      rw [K_some (show f - 1 < a.length by omega), K_some (show f - 1 < b.length by omega)] at e2
      rw [← Option.some.inj e2]; exact hta
  have h1 := filter_split (q := fun a => tru a (f : Int)) hs
  rw [h1]
  congr 1
  · unfold under
    rw [List.filter_filter]
    refine List.filter_congr fun m _ => ?_
    rw [List.all_append]
    simp only [List.all_cons, List.all_nil, Bool.and_true]
    rw [tru_neg r1]
    cases tru m (f : Int) <;> cases L.all (tru m) <;> cases hold cs m <;> rfl
  · unfold under
    rw [List.filter_filter]
    refine List.filter_congr fun m _ => ?_
    rw [List.all_append]
    simp only [List.all_cons, List.all_nil, Bool.and_true]
    cases tru m (f : Int) <;> cases L.all (tru m) <;> cases hold cs m <;> rfl

def Full (v : Nat) (L : List Int) : Prop := ∀ j : Nat, 1 ≤ j → j ≤ v → tv L (j : Int) ≠ 0
theorem full_of (h : freeV v L > v) : Full v L := fun j h1 h2 => (freeV_spec (v := v) (L := L)).2.2.1 j h1 (by omega)
theorem modelOf_len : (modelOf v L).length = v := by simp [modelOf]
theorem modelOf_true (hA : Asg v L) (hv : v ≤ 1048576) : L.all (tru (modelOf v L)) = true := by
  rw [List.all_eq_true]
  intro x hx
  obtain ⟨hr, hv2⟩ := hA.inV x hx
  have hp := varL_pos hr
  obtain ⟨b, hb, e⟩ := tru_at hr (modelOf_len (v := v) (L := L)) hv2
  rw [e]
  unfold modelOf at hb
  rw [List.getElem?_map, List.getElem?_range (by omega)] at hb
  simp only [Option.map_some, Option.some.injEq] at hb
  have e2 : (((varL x - 1).toNat : Nat) : Int) + 1 = varL x := by omega
  rw [e2] at hb
  subst hb
  rw [varL_abs hr]
  by_cases h0 : x < 0
  · rw [if_pos h0, decide_eq_true h0, decide_eq_false (fun q => hA.cons x hx (tv_pos.1 q))]; rfl
  · rw [if_neg h0, decide_eq_false h0, decide_eq_true (tv_pos.2 hx)]; rfl

theorem under_full (hi : InV v cs) (hA : Asg v L) (hv : v ≤ 1048576) (hF : Full v L) (hl : lookP L cs = (-1, 0)) : under v cs L = [modelOf v L] := by
  have hM := modelOf_true hA hv
  have hnz : ∀ x : Int, rt x = true → varL x ≤ v → tv L x ≠ 0 := fun x hr h1 h2 => by
    have hp := varL_pos hr
    refine hF (varL x).toNat (by omega) (by omega) ?_
    rw [show (((varL x).toNat : Nat) : Int) = varL x by omega, varL_abs hr]
    split
    · exact tv_neg0 h2
    · exact h2
  have hold1 : hold cs (modelOf v L) = true := by
    refine List.all_eq_true.2 fun c hc => ?_
    rcases look_cases (L := L) (nzI hi) with ⟨j, c, _, _, e⟩ | ⟨_, hne, _⟩ | ⟨_, _, h2⟩
    · rw [hl] at e; simp at e
    · rw [hl] at hne; exact absurd rfl hne
    · have hc2 := h2 c hc
      rcases last0 (L := L) c (nzI hi c hc) with ⟨e, _⟩ | ⟨x, _, _, _, e⟩ | ⟨_, ⟨x, hx, hp⟩ | ⟨x, hx, _, _, _, hz, _⟩⟩
      · rw [e] at hc2; cases hc2
      · rw [e] at hc2; cases hc2
      · exact List.any_eq_true.2 ⟨x, hx, List.all_eq_true.1 hM x (tv_pos.1 hp)⟩
      · exact absurd hz (hnz x (hi c hc x hx).1 (hi c hc x hx).2)
  have hmem : modelOf v L ∈ under v cs L := List.mem_filter.2 ⟨Cr.mem_allB.2 modelOf_len, by rw [hM, hold1]; rfl⟩
  have huniq : ∀ m ∈ under v cs L, m = modelOf v L := fun m hm => by
    obtain ⟨h1, h2⟩ := List.mem_filter.1 hm
    simp only [Bool.and_eq_true] at h2
    have lm := Cr.mem_allB.1 h1
    refine List.ext_getElem? fun i => ?_
    rcases Nat.lt_or_ge i v with h | h
    · rw [K_some (show i < m.length by omega), K_some (show i < (modelOf v L).length by rw [modelOf_len]; exact h)]
      congr 1
      have := same_at hA h2.1 hM lm modelOf_len (j := i + 1) (by omega) (by omega) hv (hF (i + 1) (by omega) (by omega))
      simpa using this
    · rw [List.getElem?_eq_none (by omega), List.getElem?_eq_none (by rw [modelOf_len]; omega)]
  have hnd : (under v cs L).Nodup := ((Cr.allB_sorted v).filter _).imp fun {a b} h e => by
    subst e
    have := (Cr.ltB_iff rfl).1 h
    obtain ⟨i, _, _, h1, h2⟩ := this
    rw [h1] at h2; cases h2
  generalize under v cs L = U at *
  match U, hnd, hmem, huniq with
  | [], _, h, _ => cases h
  | [a], _, _, hu => rw [hu a (by simp)]
  | a :: b :: r, hn, _, hu =>
    have e1 := hu a (by simp)
    have e2 := hu b (by simp)
    rw [List.nodup_cons] at hn
    exact absurd (by rw [e1, ← e2]; simp) hn.1

theorem under_bad (hi : InV v cs) (hA : Asg v L) (h : (lookP L cs).1 ≥ 0) : under v cs L = [] := by
  refine List.filter_eq_nil_iff.2 fun m _ => ?_
  cases ha : L.all (tru m) with
  | false => simp
  | true => rw [bad_false hi hA h ha]; simp

theorem trace_mods (hi : InV v cs) (hv : v ≤ 1048576) : ∀ (k : Nat) (L : List Int), Asg v L → freeN v L < k → mods (trace v cs k L) = under v cs L
  | 0, L, _, h => by omega
  | k + 1, L, hA, hk => by
    rw [← under_follow hi hA]
    have hA2 := follow_asg hi hA
    have a3 := freeN_app (follow_spec hi (v + 1) L).1
    rw [show followGo cs (v + 1) L = followP v cs L from rfl] at a3
    unfold trace
    simp only
    rcases follow_cases hi L with ⟨h1, h2⟩ | ⟨h1, h2⟩
    · rw [if_pos h1]
      exact (under_bad hi hA2 (by rw [h2]; exact h1)).symm
    · rw [if_neg (by omega)]
      by_cases hf : freeV v (L ++ (followP v cs L).1) > v
      · rw [if_pos hf, under_full hi hA2 hv (full_of hf) h2]; rfl
      · rw [if_neg hf, under_guess hA2 hv (by omega)]
        obtain ⟨f1, f2, f3, f4⟩ := freeV_spec (v := v) (L := L ++ (followP v cs L).1)
        obtain ⟨r1, v1, r2, v2⟩ := lit_pos f1 (show freeV v (L ++ (followP v cs L).1) ≤ v by omega) hv
        have f4 := f4 (by omega)
        have a1 := freeN_snoc r1 v1 f4
        have a2 := freeN_snoc r2 v2 (tv_neg0 f4)
        have b1 := trace_mods hi hv k _ (hA2.snoc r2 v2 (tv_neg0 f4)) (by omega)
        have b2 := trace_mods hi hv k _ (hA2.snoc r1 v1 f4) (by omega)
        show mods (_ ++ _) = _
        rw [mods_append, b1]
        show _ ++ mods (trace _ _ _ _) = _
        rw [b2]

end Go.Dp
