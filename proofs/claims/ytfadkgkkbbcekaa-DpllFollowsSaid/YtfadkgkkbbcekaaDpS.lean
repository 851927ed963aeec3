/-
  The search of dpll in plain form: fuel, what follows in any order, the formula with more clauses. No program here.
-/
import Derived.Test.YtfadkgkkbbcekaaDpQ
set_option linter.unusedVariables false
set_option linter.unusedSimpArgs false
namespace Go.Dp
open Go Go.Cl Go.Fo

variable {v : Nat} {L L' M o c : List Int} {cs us : List (List Int)} {x y : Int} {m : List Bool} {T U : List Ev} {f : Nat}

theorem run_le : ∀ (T : List Ev) (f : Nat), (runT f T).2 ≤ f + 1 ∧ (runT f T).2 ≤ ng T
  | [], f => by simp [runT, ng]
  | .model m :: T, f => by simp [runT, ng]
  | .guess :: T, 0 => by simp [runT, ng]
  | .guess :: T, f + 1 => by
    have := run_le T f
    simp only [runT, ng]; omega
theorem run_more : ∀ (T : List Ev) (f f' : Nat), (runT f T).2 ≤ f → (runT f T).2 ≤ f' → runT f' T = runT f T
  | [], f, f', _, _ => by simp [runT]
  | .model m :: T, f, f', _, _ => by simp [runT]
  | .guess :: T, 0, f', h, _ => by simp [runT] at h
  | .guess :: T, f + 1, 0, h, h2 => by simp [runT] at h2
  | .guess :: T, f + 1, f' + 1, h, h2 => by
    simp only [runT] at h h2 ⊢
    rw [run_more T f f' (by omega) (by omega)]
theorem run_less : ∀ (T : List Ev) (f f' : Nat), (runT f T).2 ≤ f → f' < (runT f T).2 → runT f' T = (none, f' + 1)
  | [], f, f', _, h2 => by simp [runT] at h2
  | .model m :: T, f, f', _, h2 => by simp [runT] at h2
  | .guess :: T, 0, f', h, _ => by simp [runT] at h
  | .guess :: T, f + 1, 0, h, h2 => by simp [runT]
  | .guess :: T, f + 1, f' + 1, h, h2 => by
    simp only [runT] at h h2 ⊢
    rw [run_less T f f' (by omega) (by omega)]
theorem run_enough : ∀ (T : List Ev) (f : Nat), ng T ≤ f → (runT f T).1 = (mods T).head?
  | [], f, _ => by simp [runT, mods]
  | .model m :: T, f, _ => by simp [runT, mods]
  | .guess :: T, 0, h => by simp [ng] at h
  | .guess :: T, f + 1, h => by
    simp only [ng] at h
    simp only [runT, mods]
    exact run_enough T f (by omega)
theorem run_nomod : ∀ (T : List Ev) (f : Nat) (U : List Ev), mods T = [] → ng T ≤ f → runT f (T ++ U) = ((runT (f - ng T) U).1, ng T + (runT (f - ng T) U).2)
  | [], f, U, _, _ => by simp [ng]
  | .model m :: T, f, U, h, _ => by simp [mods] at h
  | .guess :: T, 0, U, _, h => by simp [ng] at h
  | .guess :: T, f + 1, U, h, h2 => by
    simp only [ng] at h2
    have ih := run_nomod T f U h (by omega)
    show ((runT f (T ++ U)).1, (runT f (T ++ U)).2 + 1) = _
    rw [ih]
    have e : f + 1 - ng (.guess :: T) = f - ng T := by simp [ng]
    rw [e]
    simp only [ng, Prod.mk.injEq, true_and]
    omega

theorem run_step (cs : List (List Int)) (k f : Nat) (L : List Int) : runT f (trace v cs (k + 1) L) =
    if (followP v cs L).2 ≥ 0 then (none, 0) else
    if freeV v (L ++ (followP v cs L).1) > v then (some (modelOf v (L ++ (followP v cs L).1)), 0) else
    if f < 1 then (none, 1) else
    let r := runT (f - 1) (trace v cs k (L ++ (followP v cs L).1 ++ [-((freeV v (L ++ (followP v cs L).1) : Nat) : Int)]))
    if r.1.isSome ∨ r.2 + 1 > f then (r.1, r.2 + 1) else
    if r.2 + 2 > f then (none, r.2 + 2) else
    let s := runT (f - r.2 - 2) (trace v cs k (L ++ (followP v cs L).1 ++ [((freeV v (L ++ (followP v cs L).1) : Nat) : Int)]))
    (s.1, r.2 + 2 + s.2) := by
  conv => lhs; unfold trace
  simp only
  by_cases h1 : (followP v cs L).2 ≥ 0
  · rw [if_pos h1, if_pos h1]; cases f <;> rfl
  rw [if_neg h1, if_neg h1]
  by_cases h2 : freeV v (L ++ (followP v cs L).1) > v
  · rw [if_pos h2, if_pos h2]; cases f <;> rfl
  rw [if_neg h2, if_neg h2]
  generalize trace v cs k (L ++ (followP v cs L).1 ++ [-((freeV v (L ++ (followP v cs L).1) : Nat) : Int)]) = T
  generalize trace v cs k (L ++ (followP v cs L).1 ++ [((freeV v (L ++ (followP v cs L).1) : Nat) : Int)]) = U
  cases f with
  | zero => rfl
  | succ f =>
    rw [if_neg (by omega)]
    have ha := runT_append T f (.guess :: U)
    show ((runT f (T ++ .guess :: U)).1, (runT f (T ++ .guess :: U)).2 + 1) = _
    rw [ha]
    simp only [Nat.add_sub_cancel]
    by_cases h3 : (runT f T).1.isSome = true ∨ (runT f T).2 > f
    · rw [if_pos h3, if_pos (h3.imp id (by omega))]
    · rw [if_neg h3, if_neg (fun q => h3 (q.imp id (by omega)))]
      have hn : (runT f T).1 = none := by
        cases h4 : (runT f T).1 with
        | none => rfl
        | some m => exact absurd (.inl (by rw [h4]; rfl)) h3
      have hle : (runT f T).2 ≤ f := by
        by_cases h4 : (runT f T).2 ≤ f
        · exact h4
        · exact absurd (.inr (by omega)) h3
      by_cases h4 : (runT f T).2 + 2 > f + 1
      · rw [if_pos h4]
        have e : f - (runT f T).2 = 0 := by omega
        rw [e]
        rfl
      · rw [if_neg h4]
        obtain ⟨n, e⟩ : ∃ n, f - (runT f T).2 = n + 1 := ⟨f - (runT f T).2 - 1, by omega⟩
        have e2 : f + 1 - (runT f T).2 - 2 = n := by omega
        rw [e, e2]
        simp only [runT, Prod.mk.injEq, true_and]
        omega

theorem last_congr (h : ∀ y, y ∈ L ↔ y ∈ L') : lastP L = lastP L' := by
  have ht := tv_congr h
  have : ∀ (c : List Int) (one : Int) (n : Nat), lastGo L one n c = lastGo L' one n c := fun c => by
    induction c with
    | nil => intro one n; rfl
    | cons x c ih => intro one n; unfold lastGo; rw [ht]; simp only [ih]
  funext c; exact this c 0 0
theorem look_congr (h : ∀ y, y ∈ L ↔ y ∈ L') : lookP L cs = lookP L' cs := by
  have hl := last_congr h
  have : ∀ (cs : List (List Int)) (i : Nat) (n : Int), lookGo L i n cs = lookGo L' i n cs := fun cs => by
    induction cs with
    | nil => intro i n; rfl
    | cons x c ih => intro i n; unfold lookGo; rw [hl]; simp only [ih]
  exact this cs 0 0
theorem mem_snoc (h : ∀ y, y ∈ L ↔ y ∈ L') (x : Int) : ∀ y, y ∈ L ++ [x] ↔ y ∈ L' ++ [x] := fun y => by simp [h]
theorem follow_congr : ∀ (k : Nat) {L L' : List Int}, (∀ y, y ∈ L ↔ y ∈ L') → followGo cs k L = followGo cs k L'
  | 0, L, L', h => by unfold followGo; rw [look_congr h]
  | k + 1, L, L', h => by unfold followGo; rw [look_congr h, follow_congr k (mem_snoc h _)]
theorem free_congr (h : ∀ y, y ∈ L ↔ y ∈ L') : freeV v L = freeV v L' := by
  have ht := tv_congr h
  have : ∀ (n k : Nat), freeGo v L n k = freeGo v L' n k := fun n => by
    induction n with
    | zero => intro k; rfl
    | succ n ih => intro k; unfold freeGo; rw [ht]; simp only [ih]
  exact this _ _
theorem modelOf_congr (h : ∀ y, y ∈ L ↔ y ∈ L') : modelOf v L = modelOf v L' := by unfold modelOf; rw [tv_congr h]
theorem mem_app (h : ∀ y, y ∈ L ↔ y ∈ L') (o : List Int) : ∀ y, y ∈ L ++ o ↔ y ∈ L' ++ o := fun y => by simp [h]
theorem trace_congr : ∀ (k : Nat) {L L' : List Int}, (∀ y, y ∈ L ↔ y ∈ L') → trace v cs k L = trace v cs k L'
  | 0, L, L', h => rfl
  | k + 1, L, L', h => by
    unfold trace
    have e : followP v cs L = followP v cs L' := follow_congr _ h
    simp only [e]
    have h2 := mem_app h (followP v cs L').1
    rw [free_congr h2, modelOf_congr h2, trace_congr k (mem_snoc h2 _), trace_congr k (mem_snoc h2 _)]

def Stable (cs : List (List Int)) (L : List Int) : Prop := lookP L cs = (-1, 0)
theorem stable_iff (h0 : ∀ c ∈ cs, ∀ y ∈ c, y ≠ 0) : Stable cs L ↔ ∀ d ∈ cs, (lastP L d).2 = 2 := by
  unfold Stable
  constructor
  · intro h
    rcases look_cases (L := L) h0 with ⟨j, c, _, _, e⟩ | ⟨_, hne, _⟩ | ⟨_, _, h2⟩
    · rw [h] at e; simp at e
    · rw [h] at hne; exact absurd rfl hne
    · exact h2
  · intro h
    rcases look_cases (L := L) h0 with ⟨j, c, hj, ha, e⟩ | ⟨_, hne, ⟨d, hd, e⟩, _⟩ | ⟨e, e2, h2⟩
    · have hc := List.mem_of_getElem? hj
      have := h c hc
      rcases last0 (L := L) c (h0 c hc) with ⟨e, _⟩ | ⟨x, hx, hx0, _, e⟩ | ⟨_, ⟨x, hx, hp⟩ | ⟨x, hx, _, _, _, hz, _⟩⟩
      · rw [e] at this; cases this
      · rw [e] at this; cases this
      · have := ha x hx; omega
      · have := ha x hx; omega
    · have := h d hd
      rw [e] at this; cases this
    · exact Prod.ext e e2

theorem mem_of_mem (hL : ∀ x ∈ L, x ∈ M) (hA : Asg v L) (hB : Asg v M) (h : tv L y < 0) : tv M y < 0 := (tv_neg_lt hB).2 (hL _ ((tv_neg_lt hA).1 h))

theorem follow_sub (hi : InV v cs) (hB : Asg v M) (hM : Stable cs M) : ∀ (k : Nat) (L : List Int), Asg v L → (∀ x ∈ L, x ∈ M) → (followGo cs k L).2 = -1 ∧ ∀ x ∈ (followGo cs k L).1, x ∈ M := by
  have h2 := (stable_iff (nzI hi)).1 hM
  have nobad : ∀ L : List Int, Asg v L → (∀ x ∈ L, x ∈ M) → (lookP L cs).1 = -1 := fun L hA hL => by
    rcases look_cases (L := L) (nzI hi) with ⟨j, c, hj, ha, e⟩ | ⟨e, _⟩ | ⟨e, _⟩
    · exfalso
      have hc := List.mem_of_getElem? hj
      have h3 := h2 c hc
      have hm : ∀ y ∈ c, tv M y < 0 := fun y hy => mem_of_mem hL hA hB (ha y hy)
      rcases last0 (L := M) c (nzI hi c hc) with ⟨e, _⟩ | ⟨x, hx, hx0, _, e⟩ | ⟨_, ⟨x, hx, hp⟩ | ⟨x, hx, _, _, _, hz, _⟩⟩
      · rw [e] at h3; cases h3
      · rw [e] at h3; cases h3
      · have := hm x hx; omega
      · have := hm x hx; omega
    · exact e
    · exact e
  intro k
  induction k with
  | zero => exact fun L hA hL => ⟨nobad L hA hL, fun x hx => by cases hx⟩
  | succ k ih =>
    intro L hA hL
    unfold followGo
    have hb := nobad L hA hL
    rw [if_neg (by omega)]
    by_cases h3 : (lookP L cs).2 = 0
    · rw [if_pos h3]; exact ⟨rfl, fun x hx => by cases hx⟩
    rw [if_neg h3]
    rcases look_cases (L := L) (nzI hi) with ⟨j, c, _, _, e⟩ | ⟨_, _, ⟨d, hd, e⟩, _⟩ | ⟨_, e, _⟩
    · omega
    · obtain ⟨hx, hx0, ha⟩ := unit_spec (nzI hi d hd) e
      obtain ⟨hr, hv⟩ := hi d hd _ hx
      have hin : (lookP L cs).2 ∈ M := by
        have h4 := h2 d hd
        have hm : ∀ y ∈ d, y = (lookP L cs).2 ∨ tv M y < 0 := fun y hy => (ha y hy).imp id (mem_of_mem hL hA hB)
        rcases last0 (L := M) d (nzI hi d hd) with ⟨e, _⟩ | ⟨x, hx, hx0, _, e⟩ | ⟨_, ⟨x, hx, hp⟩ | ⟨x, hx, z, hz, hne, h5, h6⟩⟩
        · rw [e] at h4; cases h4
        · rw [e] at h4; cases h4
        · rcases hm x hx with rfl | h5
          · exact tv_pos.1 hp
          · omega
        · rcases hm x hx with e1 | h7
          · rcases hm z hz with e2 | h8
            · exact absurd (e1.trans e2.symm) hne
            · omega
          · omega
      obtain ⟨i1, i2⟩ := ih (L ++ [(lookP L cs).2]) (hA.snoc hr hv hx0) (fun x hx => by
        simp at hx
        rcases hx with hx | rfl
        · exact hL x hx
        · exact hin)
      refine ⟨i1, fun x hx => ?_⟩
      rcases List.mem_cons.1 hx with rfl | hx
      · exact hin
      · exact i2 x hx
    · exact absurd e h3

theorem look_more (h : ∀ d ∈ us, (lastP L d).2 = 2) : lookP L (cs ++ us) = lookP L cs := by
  have hu : ∀ (us : List (List Int)) (i : Nat) (n : Int), (∀ d ∈ us, (lastP L d).2 = 2) → lookGo L i n us = (-1, n) := fun us => by
    induction us with
    | nil => intro i n _; rfl
    | cons u us ih =>
      intro i n h
      have h2 := h u (by simp)
      unfold lookGo
      rw [if_neg (by omega), if_neg (fun q => by omega), ih _ _ fun d hd => h d (by simp [hd])]
  have : ∀ (cs : List (List Int)) (i : Nat) (n : Int), lookGo L i n (cs ++ us) = lookGo L i n cs := fun cs => by
    induction cs with
    | nil => intro i n; exact hu us i n h
    | cons x c ih => intro i n; rw [List.cons_append]; unfold lookGo; simp only [ih]
  exact this cs 0 0
theorem last_true (h : x ∈ L) (hx : x ∈ c) (h0 : ∀ y ∈ c, y ≠ 0) (hA : Asg v L) : (lastP L c).2 = 2 := by
  rcases last0 (L := L) c h0 with ⟨e, ha⟩ | ⟨z, hz, hz0, ha, e⟩ | ⟨e, _⟩
  · have := ha x hx
    have := tv_pos.2 h
    omega
  · exfalso
    have h1 := tv_pos.2 h
    rcases ha x hx with rfl | h2 <;> omega
  · rw [e]

theorem follow_more : ∀ (k : Nat) (L : List Int), (∀ c ∈ us, ∀ y ∈ c, y ≠ 0) → InV v cs → Asg v L → (∀ c ∈ us, ∃ x ∈ c, x ∈ L) → followGo (cs ++ us) k L = followGo cs k L := by
  intro k
  induction k with
  | zero =>
    intro L h0 hi hA h
    unfold followGo
    rw [look_more fun d hd => let ⟨x, hx, hl⟩ := h d hd; last_true hl hx (h0 d hd) hA]
  | succ k ih =>
    intro L h0 hi hA h
    unfold followGo
    rw [look_more fun d hd => let ⟨x, hx, hl⟩ := h d hd; last_true hl hx (h0 d hd) hA]
    by_cases h1 : (lookP L cs).1 ≥ 0
    · rw [if_pos h1, if_pos h1]
    rw [if_neg h1, if_neg h1]
    by_cases h2 : (lookP L cs).2 = 0
    · rw [if_pos h2, if_pos h2]
    rw [if_neg h2, if_neg h2]
    have hA2 : Asg v (L ++ [(lookP L cs).2]) := by
      have := (follow_spec hi 1 L).1
      unfold followGo at this
      rw [if_neg h1, if_neg h2] at this
      exact hA.snoc this.1.2.1 this.1.2.2 this.1.1
    rw [ih _ h0 hi hA2 fun c hc => let ⟨x, hx, hl⟩ := h c hc; ⟨x, hx, by simp [hl]⟩]

theorem trace_more (h0 : ∀ c ∈ us, ∀ y ∈ c, y ≠ 0) (hi : InV v cs) (hv : v ≤ 1048576) : ∀ (k : Nat) (L : List Int), Asg v L → (∀ c ∈ us, ∃ x ∈ c, x ∈ L) → trace v (cs ++ us) k L = trace v cs k L
  | 0, L, _, _ => rfl
  | k + 1, L, hA, h => by
    unfold trace
    have e : followP v (cs ++ us) L = followP v cs L := follow_more _ L h0 hi hA h
    simp only [e]
    have hA2 := follow_asg hi hA
    by_cases h1 : (followP v cs L).2 ≥ 0
    · rw [if_pos h1, if_pos h1]
    rw [if_neg h1, if_neg h1]
    by_cases hf : freeV v (L ++ (followP v cs L).1) > v
    · rw [if_pos hf, if_pos hf]
    rw [if_neg hf, if_neg hf]
    obtain ⟨f1, f2, f3, f4⟩ := freeV_spec (v := v) (L := L ++ (followP v cs L).1)
    obtain ⟨r1, v1, r2, v2⟩ := lit_pos f1 (show freeV v (L ++ (followP v cs L).1) ≤ v by omega) hv
    have f4 := f4 (by omega)
    have hb : ∀ c ∈ us, ∃ x ∈ c, x ∈ L ++ (followP v cs L).1 := fun c hc => let ⟨x, hx, hl⟩ := h c hc; ⟨x, hx, by simp [hl]⟩
    rw [trace_more h0 hi hv k _ (hA2.snoc r2 v2 (tv_neg0 f4)) fun c hc => let ⟨x, hx, hl⟩ := hb c hc; ⟨x, hx, List.mem_append.2 (.inl hl)⟩,
      trace_more h0 hi hv k _ (hA2.snoc r1 v1 f4) fun c hc => let ⟨x, hx, hl⟩ := hb c hc; ⟨x, hx, List.mem_append.2 (.inl hl)⟩]

theorem trace_under (hi : InV v cs) (hv : v ≤ 1048576) (hA : Asg v L) : trace v (cs ++ L.map fun x => [x]) (v + 1) [] = trace v cs (v + 1) L := by
  have hiu : InV v (L.map fun x => [x]) := fun c hc x hx => by
    obtain ⟨y, hy, rfl⟩ := List.mem_map.1 hc
    simp at hx; subst hx
    exact hA.inV x hy
  have hi2 : InV v (cs ++ L.map fun x => [x]) := fun c hc => (List.mem_append.1 hc).elim (hi c) (hiu c)
  have e : ∀ M : List Int, Asg v M → Stable (cs ++ L.map fun x => [x]) M → Stable cs M ∧ ∀ x ∈ L, x ∈ M := fun M hM hs => by
    have h2 := (stable_iff (nzI hi2)).1 hs
    refine ⟨(stable_iff (nzI hi)).2 fun d hd => h2 d (by simp [hd]), fun x hx => ?_⟩
    have h3 := h2 [x] (List.mem_append.2 (.inr (List.mem_map.2 ⟨x, hx, rfl⟩)))
    rcases last0 (L := M) [x] (nzI hiu [x] (List.mem_map.2 ⟨x, hx, rfl⟩)) with ⟨e, _⟩ | ⟨z, hz, hz0, _, e⟩ | ⟨_, ⟨z, hz, hp⟩ | ⟨y, hy, z, hz, hne, _⟩⟩
    · rw [e] at h3; cases h3
    · rw [e] at h3; cases h3
    · simp at hz; subst hz; exact tv_pos.1 hp
    · simp at hy hz; exact absurd (hy.trans hz.symm) hne
  have hb : ∀ M : List Int, (∀ x ∈ L, x ∈ M) → ∀ c ∈ L.map fun x => [x], ∃ x ∈ c, x ∈ M := fun M h c hc => by
    obtain ⟨y, hy, rfl⟩ := List.mem_map.1 hc
    exact ⟨y, by simp, h y hy⟩
  have hA1 : Asg v ([] ++ (followP v (cs ++ L.map fun x => [x]) []).1) := follow_asg hi2 Asg.nil
  have hA2 : Asg v (L ++ (followP v cs L).1) := follow_asg hi hA
  rw [List.nil_append] at hA1
  unfold trace
  simp only [List.nil_append]
  rcases follow_cases hi L with ⟨b2, l2⟩ | ⟨b2, l2⟩
  · -- a clause fails
    rcases follow_cases hi2 ([] : List Int) with ⟨b1, l1⟩ | ⟨b1, l1⟩
    · rw [if_pos b1, if_pos b2]
    · exfalso
      rw [List.nil_append] at l1
      obtain ⟨s1, s2⟩ := e _ hA1 l1
      have := (follow_sub hi hA1 s1 (v + 1) L hA s2).1
      rw [show followGo cs (v + 1) L = followP v cs L from rfl] at this
      omega
  · have hst : Stable (cs ++ L.map fun x => [x]) (L ++ (followP v cs L).1) := by
      show lookP _ _ = _
      rw [look_more fun d hd => ?_]
      · exact l2
      · obtain ⟨x, hx, hl⟩ := hb (L ++ (followP v cs L).1) (fun x hx => by simp [hx]) d hd
        exact last_true hl hx (nzI hiu d hd) hA2
    obtain ⟨b1, s1⟩ := follow_sub hi2 hA2 hst (v + 1) [] Asg.nil (fun x hx => by cases hx)
    have b1 : (followP v (cs ++ L.map fun x => [x]) []).2 = -1 := b1
    have s1 : ∀ x ∈ (followP v (cs ++ L.map fun x => [x]) []).1, x ∈ L ++ (followP v cs L).1 := s1
    have l1 : Stable (cs ++ L.map fun x => [x]) (followP v (cs ++ L.map fun x => [x]) []).1 := by
      rcases follow_cases hi2 ([] : List Int) with ⟨b3, _⟩ | ⟨_, l1⟩
      · omega
      · rw [List.nil_append] at l1; exact l1
    obtain ⟨s3, s4⟩ := e _ hA1 l1
    have s5 := (follow_sub hi hA1 s3 (v + 1) L hA s4).2
    have hset : ∀ y, y ∈ (followP v (cs ++ L.map fun x => [x]) []).1 ↔ y ∈ L ++ (followP v cs L).1 := fun y => ⟨s1 y, fun h => (List.mem_append.1 h).elim (s4 y) (s5 y)⟩
    rw [if_neg (show ¬ (followP v (cs ++ L.map fun x => [x]) []).2 ≥ 0 by omega), if_neg (show ¬ (followP v cs L).2 ≥ 0 by omega), free_congr hset, modelOf_congr hset]
    by_cases hf : freeV v (L ++ (followP v cs L).1) > v
    · rw [if_pos hf, if_pos hf]
    rw [if_neg hf, if_neg hf]
    obtain ⟨f1, f2, f3, f4⟩ := freeV_spec (v := v) (L := L ++ (followP v cs L).1)
    obtain ⟨r1, v1, r2, v2⟩ := lit_pos f1 (show freeV v (L ++ (followP v cs L).1) ≤ v by omega) hv
    have f4 := f4 (by omega)
    rw [trace_congr v (mem_snoc hset _), trace_congr v (mem_snoc hset _),
      trace_more (nzI hiu) hi hv v _ (hA2.snoc r2 v2 (tv_neg0 f4)) (hb _ fun x hx => by simp [hx]), trace_more (nzI hiu) hi hv v _ (hA2.snoc r1 v1 f4) (hb _ fun x hx => by simp [hx])]

theorem follow_again (hi : InV v cs) (L : List Int) : followP v cs (L ++ (followP v cs L).1) = ([], (followP v cs L).2) := by
  rcases follow_cases hi L with ⟨b, l⟩ | ⟨b, l⟩
  · have : followP v cs (L ++ (followP v cs L).1) = ([], (lookP (L ++ (followP v cs L).1) cs).1) := by
      show followGo cs (v + 1) _ = _
      unfold followGo
      rw [if_pos (by rw [l]; exact b)]
    rw [this, l]
  · have : followP v cs (L ++ (followP v cs L).1) = ([], -1) := by
      show followGo cs (v + 1) _ = _
      unfold followGo
      rw [if_neg (by rw [l]; simp), if_pos (by rw [l])]
    rw [this, b]

end Go.Dp
