/-
  What can survive a crash, in plain Lean: no program in sight.
-/
set_option linter.unusedVariables false
namespace Go.Cr

abbrev Ent := Int × Int × Int × Unit
def rightGo : Int → List Ent → Bool
  | _, [] => true
  | e, x :: l => decide (0 ≤ x.1) && (decide (x.1 < 16) && (decide (e ≤ x.2.2.1) && rightGo x.2.2.1 l))
def rightL (l : List Ent) : Bool := rightGo 0 l && decide (l.length ≤ 4096)

def E (l : List Ent) (i : Nat) : Int := (l.getD i (0, 0, 0, ())).2.2.1
def K (k : List Bool) (i : Nat) : Bool := k.getD i false

theorem E_get {l : List Ent} {i : Nat} (h : i < l.length) : E l i = l[i].2.2.1 := by simp [E, List.getD_eq_getElem?_getD, List.getElem?_eq_getElem h]
theorem K_get {k : List Bool} {i : Nat} (h : i < k.length) : K k i = k[i] := by simp [K, List.getD_eq_getElem?_getD, List.getElem?_eq_getElem h]

def Mono (l : List Ent) : Prop := ∀ i j, i ≤ j → j < l.length → E l i ≤ E l j

theorem rightGo_mem : ∀ {l : List Ent} {e : Int}, rightGo e l = true → ∀ x ∈ l, 0 ≤ x.1 ∧ x.1 < 16 ∧ e ≤ x.2.2.1
  | [], _, _, x, h => by cases h
  | y :: l, e, h, x, hx => by
    simp only [rightGo, Bool.and_eq_true, decide_eq_true_eq] at h
    rcases List.mem_cons.1 hx with rfl | hx
    · exact ⟨h.1, h.2.1, h.2.2.1⟩
    · have := rightGo_mem h.2.2.2 x hx
      exact ⟨this.1, this.2.1, by omega⟩
theorem rightGo_pair : ∀ {l : List Ent} {e : Int}, rightGo e l = true → l.Pairwise (fun x y => x.2.2.1 ≤ y.2.2.1)
  | [], _, _ => .nil
  | y :: l, e, h => by
    simp only [rightGo, Bool.and_eq_true, decide_eq_true_eq] at h
    exact .cons (fun x hx => (rightGo_mem h.2.2.2 x hx).2.2) (rightGo_pair h.2.2.2)
theorem rightGo_iff : ∀ {l : List Ent} {e : Int}, rightGo e l = true ↔ (∀ x ∈ l, 0 ≤ x.1 ∧ x.1 < 16 ∧ e ≤ x.2.2.1) ∧ l.Pairwise (fun x y => x.2.2.1 ≤ y.2.2.1)
  | [], e => by simp [rightGo]
  | y :: l, e => by
    simp only [rightGo, Bool.and_eq_true, decide_eq_true_eq, rightGo_iff (l := l) (e := y.2.2.1), List.mem_cons, List.pairwise_cons]
    constructor
    · rintro ⟨a, b, c, d, f⟩
      refine ⟨?_, fun x hx => (d x hx).2.2, f⟩
      rintro x (rfl | hx)
      · exact ⟨a, b, c⟩
      · have := d x hx; exact ⟨this.1, this.2.1, by omega⟩
    · rintro ⟨a, b, c⟩
      have h := a y (.inl rfl)
      exact ⟨h.1, h.2.1, h.2.2, fun x hx => ⟨(a x (.inr hx)).1, (a x (.inr hx)).2.1, b x hx⟩, c⟩
theorem mono_of_pair {l : List Ent} (h : l.Pairwise (fun x y => x.2.2.1 ≤ y.2.2.1)) : Mono l := fun i j hij hj => by
  rcases Nat.lt_or_eq_of_le hij with hlt | rfl
  · rw [E_get (by omega), E_get hj]
    exact List.pairwise_iff_getElem.1 h i j (by omega) hj hlt
  · exact Int.le_refl _
theorem right_mono {l : List Ent} (h : rightL l = true) : Mono l := by
  simp only [rightL, Bool.and_eq_true] at h
  exact mono_of_pair (rightGo_pair h.1)
theorem right_len {l : List Ent} (h : rightL l = true) : l.length ≤ 4096 := by
  simp only [rightL, Bool.and_eq_true, decide_eq_true_eq] at h
  exact h.2
theorem right_bl {l : List Ent} (h : rightL l = true) {x : Ent} (hx : x ∈ l) : 0 ≤ x.1 ∧ x.1 < 16 := by
  simp only [rightL, Bool.and_eq_true] at h
  have := rightGo_mem h.1 x hx
  exact ⟨this.1, this.2.1⟩

def Needs (l : List Ent) (k : List Bool) : Prop := ∀ i, i < l.length → K k i = true → ∀ j, j < l.length → E l j < E l i → K k j = true
def vld (l : List Ent) (k : List Bool) : Bool := (List.range l.length).all fun i => !K k i || (List.range l.length).all fun j => decide (E l i ≤ E l j) || K k j
theorem vld_iff {l : List Ent} {k : List Bool} : vld l k = true ↔ Needs l k := by
  unfold vld Needs
  simp only [List.all_eq_true, List.mem_range, Bool.or_eq_true, Bool.not_eq_true', decide_eq_true_eq]
  constructor
  · intro h i hi hk j hj hlt
    rcases h i hi with h | h
    · rw [hk] at h; cases h
    · rcases h j hj with h | h
      · omega
      · exact h
  · intro h i hi
    cases hk : K k i with
    | false => exact .inl rfl
    | true =>
      refine .inr fun j hj => ?_
      by_cases hlt : E l i ≤ E l j
      · exact .inl hlt
      · exact .inr (h i hi hk j hj (by omega))

def allB : Nat → List (List Bool)
  | 0 => [[]]
  | n + 1 => (allB n).map (false :: ·) ++ (allB n).map (true :: ·)
theorem mem_allB : ∀ {n : Nat} {k : List Bool}, k ∈ allB n ↔ k.length = n
  | 0, k => by simp [allB]
  | n + 1, [] => by simp [allB]
  | n + 1, b :: k => by
    cases b <;> simp [allB, mem_allB (n := n) (k := k)]

def ltB : List Bool → List Bool → Bool
  | a :: x, b :: y => if a = b then ltB x y else b
  | _, _ => false

theorem allB_sorted : ∀ n, (allB n).Pairwise (fun a b => ltB a b = true)
  | 0 => by simp [allB]
  | n + 1 => by
    unfold allB
    refine List.pairwise_append.2 ⟨?_, ?_, ?_⟩
    · exact List.pairwise_map.2 ((allB_sorted n).imp fun {a b} h => by simpa [ltB] using h)
    · exact List.pairwise_map.2 ((allB_sorted n).imp fun {a b} h => by simpa [ltB] using h)
    · intro a ha b hb
      obtain ⟨x, _, rfl⟩ := List.mem_map.1 ha
      obtain ⟨y, _, rfl⟩ := List.mem_map.1 hb
      simp [ltB]

theorem ltB_iff : ∀ {a b : List Bool}, a.length = b.length → (ltB a b = true ↔ ∃ i, i < a.length ∧ a.take i = b.take i ∧ K a i = false ∧ K b i = true)
  | [], [], _ => by simp [ltB]
  | x :: a, y :: b, h => by
    have h' : a.length = b.length := by simpa using h
    unfold ltB
    by_cases e : x = y
    · subst e
      rw [if_pos rfl, ltB_iff h']
      constructor
      · rintro ⟨i, hi, ht, ha, hb⟩
        exact ⟨i + 1, by simpa using hi, by simp [ht], ha, hb⟩
      · rintro ⟨i, hi, ht, ha, hb⟩
        cases i with
        | zero => simp [K] at ha hb; rw [ha] at hb; cases hb
        | succ i => exact ⟨i, by simpa using hi, by simpa using ht, ha, hb⟩
    · rw [if_neg e]
      constructor
      · rintro rfl
        refine ⟨0, by simp, by simp, ?_, rfl⟩
        show x = false
        cases x with
        | false => rfl
        | true => exact absurd rfl e
      · rintro ⟨i, hi, ht, ha, hb⟩
        cases i with
        | zero => exact hb
        | succ i => simp at ht; exact absurd ht.1 e
  | [], _ :: _, h => by simp at h
  | _ :: _, [], h => by simp at h

theorem ltB_irrefl : ∀ a : List Bool, ltB a a = false
  | [] => rfl
  | x :: a => by unfold ltB; rw [if_pos rfl]; exact ltB_irrefl a
theorem ltB_trans : ∀ {a b c : List Bool}, ltB a b = true → ltB b c = true → ltB a c = true
  | x :: a, y :: b, z :: c, h, k => by
    unfold ltB at h k ⊢
    by_cases e : x = y
    · subst e
      rw [if_pos rfl] at h
      by_cases e2 : x = z
      · rw [if_pos e2] at k ⊢; exact ltB_trans h k
      · rw [if_neg e2] at k ⊢; exact k
    · rw [if_neg e] at h
      subst h
      by_cases e2 : (true : Bool) = z
      · subst e2; rw [if_neg e]
      · rw [if_neg e2] at k; exact absurd k.symm e2
  | [], _, _, h, _ => by simp [ltB] at h
  | _ :: _, [], _, h, _ => by simp [ltB] at h
  | _ :: _, _ :: _, [], _, k => by simp [ltB] at k
theorem ltB_asymm {a b : List Bool} (h : ltB a b = true) : ltB b a = false := by
  cases k : ltB b a with
  | false => rfl
  | true => have := ltB_trans h k; rw [ltB_irrefl] at this; cases this
theorem ltB_total : ∀ {a b : List Bool}, a.length = b.length → ltB a b = true ∨ a = b ∨ ltB b a = true
  | [], [], _ => .inr (.inl rfl)
  | x :: a, y :: b, h => by
    have h' : a.length = b.length := by simpa using h
    unfold ltB
    by_cases e : x = y
    · subst e
      simp only [if_true]
      rcases ltB_total h' with k | k | k
      · exact .inl k
      · exact .inr (.inl (by rw [k]))
      · exact .inr (.inr k)
    · rw [if_neg e, if_neg (fun h => e h.symm)]
      cases x <;> cases y <;> simp at e ⊢
  | [], _ :: _, h => by simp at h
  | _ :: _, [], h => by simp at h

def valids (l : List Ent) : List (List Bool) := (allB l.length).filter (vld l)
theorem mem_valids {l : List Ent} {k : List Bool} : k ∈ valids l ↔ k.length = l.length ∧ vld l k = true := by unfold valids; rw [List.mem_filter, mem_allB]
theorem valids_sorted (l : List Ent) : (valids l).Pairwise (fun a b => ltB a b = true) := (allB_sorted _).filter _

def okAt (l : List Ent) (k : List Bool) (i : Nat) : Bool := !K k i && (List.range i).all fun j => decide (E l i ≤ E l j) || K k j
def cnd (l : List Ent) (k : List Bool) (i : Nat) : List Bool := k.take i ++ true :: List.replicate (l.length - i - 1) false

theorem okAt_iff {l : List Ent} {k : List Bool} {i : Nat} : okAt l k i = true ↔ K k i = false ∧ ∀ j, j < i → E l j < E l i → K k j = true := by
  unfold okAt
  simp only [Bool.and_eq_true, Bool.not_eq_true', List.all_eq_true, List.mem_range, Bool.or_eq_true, decide_eq_true_eq]
  refine and_congr Iff.rfl ⟨fun h j hj hlt => (h j hj).elim (fun h => by omega) id, fun h j hj => ?_⟩
  by_cases hlt : E l i ≤ E l j
  · exact .inl hlt
  · exact .inr (h j hj (by omega))

theorem cnd_len {l : List Ent} {k : List Bool} {i : Nat} (hk : k.length = l.length) (hi : i < l.length) : (cnd l k i).length = l.length := by
  simp [cnd]; omega
theorem cnd_lo {l : List Ent} {k : List Bool} {i j : Nat} (hk : k.length = l.length) (hi : i < l.length) (hj : j < i) : K (cnd l k i) j = K k j := by
  unfold K cnd
  rw [List.getD_eq_getElem?_getD, List.getD_eq_getElem?_getD, List.getElem?_append_left (by simp; omega), List.getElem?_take_of_lt hj]
theorem cnd_at {l : List Ent} {k : List Bool} {i : Nat} (hk : k.length = l.length) (hi : i < l.length) : K (cnd l k i) i = true := by
  unfold K cnd
  rw [List.getD_eq_getElem?_getD, List.getElem?_append_right (by simp; omega)]
  simp [show min i k.length = i by omega]
theorem cnd_hi {l : List Ent} {k : List Bool} {i j : Nat} (hk : k.length = l.length) (hi : i < l.length) (hj : i < j) : K (cnd l k i) j = false := by
  unfold K cnd
  rw [List.getD_eq_getElem?_getD, List.getElem?_append_right (by simp; omega), List.length_take, show min i k.length = i by omega]
  obtain ⟨m, hm⟩ : ∃ m, j - i = m + 1 := ⟨j - i - 1, by omega⟩
  rw [hm, List.getElem?_cons_succ, List.getElem?_replicate]
  split <;> rfl
theorem cnd_take {l : List Ent} {k : List Bool} {i : Nat} (hk : k.length = l.length) (hi : i < l.length) : (cnd l k i).take i = k.take i := by
  unfold cnd; rw [List.take_append_of_le_length (by simp; omega), List.take_take, Nat.min_self]

theorem ok_valid {l : List Ent} {k : List Bool} {i : Nat} (hm : Mono l) (hk : k.length = l.length) (hi : i < l.length) (hv : Needs l k) (ho : okAt l k i = true) : Needs l (cnd l k i) := by
  obtain ⟨h0, h1⟩ := okAt_iff.1 ho
  intro a ha hka b hb hlt
  have hba : b < a := by
    rcases Nat.lt_or_ge b a with h | h
    · exact h
    · have := hm a b h hb; omega
  rcases Nat.lt_trichotomy a i with h | h | h
  · rw [cnd_lo hk hi h] at hka
    rw [cnd_lo hk hi (by omega)]
    exact hv a ha hka b hb hlt
  · subst h
    rw [cnd_lo hk hi hba]; exact h1 b hba hlt
  · rw [cnd_hi hk hi h] at hka; cases hka
theorem ok_lt {l : List Ent} {k : List Bool} {i : Nat} (hk : k.length = l.length) (hi : i < l.length) (ho : okAt l k i = true) : ltB k (cnd l k i) = true :=
  (ltB_iff (by rw [cnd_len hk hi, hk])).2 ⟨i, by omega, (cnd_take hk hi).symm, (okAt_iff.1 ho).1, cnd_at hk hi⟩
theorem cnd_least {l : List Ent} {k k2 : List Bool} {i : Nat} (hk : k.length = l.length) (hk2 : k2.length = l.length) (hi : i < l.length) (ht : k.take i = k2.take i) (h2 : K k2 i = true) : cnd l k i = k2 ∨ ltB (cnd l k i) k2 = true := by
  rcases ltB_total (a := cnd l k i) (b := k2) (by rw [cnd_len hk hi, hk2]) with h | h | h
  · exact .inr h
  · exact .inl h
  · exfalso
    obtain ⟨j, hj, t, a, b⟩ := (ltB_iff (by rw [cnd_len hk hi, hk2])).1 h
    rcases Nat.lt_trichotomy j i with q | q | q
    · rw [cnd_lo hk hi q] at b
      have e1 : K k j = K k2 j := by
        have := congrArg (fun x => K x j) ht
        unfold K at this ⊢
        simp only [List.getD_eq_getElem?_getD, List.getElem?_take_of_lt q] at this ⊢
        exact this
      rw [e1, a] at b; cases b
    · subst q; rw [h2] at a; cases a
    · rw [cnd_hi hk hi q] at b; cases b
theorem ok_above {l : List Ent} {k k2 : List Bool} (hm : Mono l) (hk : k.length = l.length) (hk2 : k2.length = l.length) (hv2 : Needs l k2) (hlt : ltB k k2 = true) :
    ∃ i, i < l.length ∧ okAt l k i = true ∧ (cnd l k i = k2 ∨ ltB (cnd l k i) k2 = true) := by
  obtain ⟨i, hi, ht, h0, h1⟩ := (ltB_iff (by rw [hk, hk2])).1 hlt
  rw [hk] at hi
  refine ⟨i, hi, okAt_iff.2 ⟨h0, fun j hj he => ?_⟩, cnd_least hk hk2 hi ht h1⟩
  have e1 : K k j = K k2 j := by
    have := congrArg (fun x => K x j) ht
    unfold K at this ⊢
    simp only [List.getD_eq_getElem?_getD, List.getElem?_take_of_lt hj] at this ⊢
    exact this
  rw [e1]; exact hv2 i hi h1 j (by omega) he
theorem cnd_anti {l : List Ent} {k : List Bool} {i j : Nat} (hk : k.length = l.length) (hij : i < j) (hj : j < l.length) (ho : K k i = false) : ltB (cnd l k j) (cnd l k i) = true := by
  refine (ltB_iff (by rw [cnd_len hk hj, cnd_len hk (by omega)])).2 ⟨i, by rw [cnd_len hk hj]; omega, ?_, ?_, cnd_at hk (by omega)⟩
  · rw [cnd_take hk (by omega)]
    unfold cnd
    rw [List.take_append_of_le_length (by simp; omega), List.take_take, Nat.min_eq_left (by omega)]
  · rw [cnd_lo hk hj hij]; exact ho

def nextI (l : List Ent) (k : List Bool) : Nat → Option Nat
  | 0 => none
  | n + 1 => if okAt l k n then some n else nextI l k n
theorem nextI_some {l : List Ent} {k : List Bool} : ∀ {n i : Nat}, nextI l k n = some i → i < n ∧ okAt l k i = true ∧ ∀ j, i < j → j < n → okAt l k j = false
  | 0, i, h => by cases h
  | n + 1, i, h => by
    unfold nextI at h
    split at h
    · rename_i ho; cases h; exact ⟨by omega, ho, fun j h1 h2 => by omega⟩
    · rename_i ho
      obtain ⟨a, b, c⟩ := nextI_some h
      refine ⟨by omega, b, fun j h1 h2 => ?_⟩
      rcases Nat.lt_or_ge j n with h | h
      · exact c j h1 h
      · have : j = n := by omega
        subst this; simpa using ho
theorem nextI_none {l : List Ent} {k : List Bool} : ∀ {n : Nat}, nextI l k n = none → ∀ j, j < n → okAt l k j = false
  | 0, _, j, h => by omega
  | n + 1, h, j, hj => by
    unfold nextI at h
    split at h
    · cases h
    · rename_i ho
      rcases Nat.lt_or_ge j n with h' | h'
      · exact nextI_none h j h'
      · have : j = n := by omega
        subst this; simpa using ho

theorem next_split {l : List Ent} (hm : Mono l) {pre post : List (List Bool)} {k : List Bool} (h : valids l = pre ++ k :: post) : (nextI l k l.length).map (cnd l k) = post.head? := by
  have hin : k ∈ valids l := by rw [h]; simp
  obtain ⟨hk, hv⟩ := mem_valids.1 hin
  have hv := vld_iff.1 hv
  have hs := valids_sorted l
  rw [h, List.pairwise_append] at hs
  obtain ⟨_, hs2, hs3⟩ := hs
  obtain ⟨hkp, hs2⟩ := List.pairwise_cons.1 hs2
  -- a valid set above k stands behind it
  have above : ∀ k2, k2.length = l.length → Needs l k2 → ltB k k2 = true → k2 ∈ post := by
    intro k2 h1 h2 h3
    have : k2 ∈ valids l := mem_valids.2 ⟨h1, vld_iff.2 h2⟩
    rw [h] at this
    rcases List.mem_append.1 this with q | q
    · have := hs3 k2 q k (by simp)
      rw [ltB_asymm h3] at this; cases this
    · rcases List.mem_cons.1 q with q | q
      · subst q; rw [ltB_irrefl] at h3; cases h3
      · exact q
  cases hn : nextI l k l.length with
  | none =>
    cases post with
    | nil => rfl
    | cons c post =>
      exfalso
      have hc : c ∈ valids l := by rw [h]; simp
      obtain ⟨h1, h2⟩ := mem_valids.1 hc
      obtain ⟨i, hi, ho, _⟩ := ok_above hm hk h1 (vld_iff.1 h2) (hkp c (by simp))
      rw [nextI_none hn i hi] at ho; cases ho
  | some m =>
    obtain ⟨hml, hmo, hmax⟩ := nextI_some hn
    have hb : cnd l k m ∈ post := above _ (cnd_len hk hml) (ok_valid hm hk hml hv hmo) (ok_lt hk hml hmo)
    cases post with
    | nil => cases hb
    | cons c post =>
      simp only [Option.map_some, List.head?_cons, Option.some.injEq]
      have hc : c ∈ valids l := by rw [h]; simp
      obtain ⟨h1, h2⟩ := mem_valids.1 hc
      obtain ⟨i, hi, ho, hle⟩ := ok_above hm hk h1 (vld_iff.1 h2) (hkp c (by simp))
      have him : i ≤ m := by
        rcases Nat.lt_or_ge m i with q | q
        · rw [hmax i q hi] at ho; cases ho
        · exact q
      have hle2 : cnd l k m = c ∨ ltB (cnd l k m) c = true := by
        rcases Nat.lt_or_eq_of_le him with q | rfl
        · have h3 := cnd_anti hk q hml (okAt_iff.1 ho).1
          rcases hle with e | e
          · rw [e] at h3; exact .inr h3
          · exact .inr (ltB_trans h3 e)
        · exact hle
      rcases hle2 with e | e
      · exact e
      · rcases List.mem_cons.1 hb with q | q
        · exact q
        · have := (List.pairwise_cons.1 hs2).1 _ q
          rw [ltB_asymm this] at e; cases e

theorem none_valid (l : List Ent) : Needs l (List.replicate l.length false) := fun i hi hk => by
  unfold K at hk; rw [List.getD_eq_getElem?_getD, List.getElem?_replicate] at hk; split at hk <;> cases hk
theorem valids_head (l : List Ent) : (valids l).head? = some (List.replicate l.length false) := by
  have hin : List.replicate l.length false ∈ valids l := mem_valids.2 ⟨by simp, vld_iff.2 (none_valid l)⟩
  have hs := valids_sorted l
  cases hv : valids l with
  | nil => rw [hv] at hin; cases hin
  | cons c r =>
    rw [hv] at hin hs
    rcases List.mem_cons.1 hin with q | q
    · rw [q]; rfl
    · exfalso
      have h1 := (List.pairwise_cons.1 hs).1 _ q
      have hl : c.length = l.length := (mem_valids.1 (by rw [hv]; simp : c ∈ valids l)).1
      obtain ⟨i, hi, _, _, hk⟩ := (ltB_iff (by simp [hl])).1 h1
      unfold K at hk; rw [List.getD_eq_getElem?_getD, List.getElem?_replicate] at hk; split at hk <;> cases hk
theorem all_valid (l : List Ent) : Needs l (List.replicate l.length true) := fun i hi hk j hj hlt => by
  unfold K; rw [List.getD_eq_getElem?_getD, List.getElem?_replicate, if_pos hj]; rfl

end Go.Cr
