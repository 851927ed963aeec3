/-
  What can survive a crash, in plain Lean: no program in sight.
-/
import Derived.Test.YtmlamkoilggonaaGreatSxW3
set_option linter.unusedVariables false
namespace Go.Cr

/-- An entry: its block, its word, its epoch. -/
abbrev Ent := Int × Int × Int × Unit
def rightGo : Int → List Ent → Bool
  | _, [] => true
  | e, x :: l => decide (0 ≤ x.1) && (decide (x.1 < 16) && (decide (e ≤ x.2.2.1) && rightGo x.2.2.1 l))
def rightL (l : List Ent) : Bool := rightGo 0 l && decide (l.length ≤ 4096)

/-- The epoch of an entry; whether an entry is kept. -/
def E (l : List Ent) (i : Nat) : Int := (l.getD i (0, 0, 0, ())).2.2.1
def K (k : List Bool) (i : Nat) : Bool := k.getD i false

theorem E_get {l : List Ent} {i : Nat} (h : i < l.length) : E l i = l[i].2.2.1 := by simp [E, List.getD_eq_getElem?_getD, List.getElem?_eq_getElem h]
theorem K_get {k : List Bool} {i : Nat} (h : i < k.length) : K k i = k[i] := by simp [K, List.getD_eq_getElem?_getD, List.getElem?_eq_getElem h]

/-- The epochs stand in order. -/
def Mono (l : List Ent) : Prop := ∀ i j, i ≤ j → j < l.length → E l i ≤ E l j

theorem rightGo_mem : ∀ {l : List Ent} {e : Int}, rightGo e l = true → ∀ x ∈ l, 0 ≤ x.1 ∧ x.1 < 16 ∧ e ≤ x.2.2.1
  | [], _, _, x, h => by cases h
  | y :: l, e, h, x, hx => by
    simp only [rightGo, Bool.and_eq_true, decide_eq_true_eq] at h
    rcases List.mem_cons.1 hx with rfl | hx
    · exact ⟨h.1, h.2.1, h.2.2.1⟩
    · have := rightGo_mem h.2.2.2 x hx
      exact ⟨this.1, this.2.1, by omega⟩
theorem rightGo_pair : ∀ {l : List Ent} {e : Int}, rightGo e l = true → l.Pairwise (fun x y => x.2.2.1 ≤ y.2.2.1)
  | [], _, _ => .nil
  | y :: l, e, h => by
    simp only [rightGo, Bool.and_eq_true, decide_eq_true_eq] at h
    exact .cons (fun x hx => (rightGo_mem h.2.2.2 x hx).2.2) (rightGo_pair h.2.2.2)
theorem rightGo_iff : ∀ {l : List Ent} {e : Int}, rightGo e l = true ↔ (∀ x ∈ l, 0 ≤ x.1 ∧ x.1 < 16 ∧ e ≤ x.2.2.1) ∧ l.Pairwise (fun x y => x.2.2.1 ≤ y.2.2.1)
  | [], e => by simp [rightGo]
  | y :: l, e => by
    simp only [rightGo, Bool.and_eq_true, decide_eq_true_eq, rightGo_iff (l := l) (e := y.2.2.1), List.mem_cons, List.pairwise_cons]
    constructor
    · rintro ⟨a, b, c, d, f⟩
      refine ⟨?_, fun x hx => (d x hx).2.2, f⟩
      rintro x (rfl | hx)
      · exact ⟨a, b, c⟩
      · have := d x hx; exact ⟨this.1, this.2.1, by omega⟩
    · rintro ⟨a, b, c⟩
      have h := a y (.inl rfl)
      exact ⟨h.1, h.2.1, h.2.2, fun x hx => ⟨(a x (.inr hx)).1, (a x (.inr hx)).2.1, b x hx⟩, c⟩
theorem mono_of_pair {l : List Ent} (h : l.Pairwise (fun x y => x.2.2.1 ≤ y.2.2.1)) : Mono l := fun i j hij hj => by
  rcases Nat.lt_or_eq_of_le hij with hlt | rfl
  · rw [E_get (by omega), E_get hj]
    exact List.pairwise_iff_getElem.1 h i j (by omega) hj hlt
  · exact Int.le_refl _
theorem right_mono {l : List Ent} (h : rightL l = true) : Mono l := by
  simp only [rightL, Bool.and_eq_true] at h
  exact mono_of_pair (rightGo_pair h.1)
theorem right_len {l : List Ent} (h : rightL l = true) : l.length ≤ 4096 := by
  simp only [rightL, Bool.and_eq_true, decide_eq_true_eq] at h
  exact h.2
theorem right_bl {l : List Ent} (h : rightL l = true) {x : Ent} (hx : x ∈ l) : 0 ≤ x.1 ∧ x.1 < 16 := by
  simp only [rightL, Bool.and_eq_true] at h
  have := rightGo_mem h.1 x hx
  exact ⟨this.1, this.2.1⟩

/-- All that an entry that survives needs does. -/
def Needs (l : List Ent) (k : List Bool) : Prop := ∀ i, i < l.length → K k i = true → ∀ j, j < l.length → E l j < E l i → K k j = true
def vld (l : List Ent) (k : List Bool) : Bool := (List.range l.length).all fun i => !K k i || (List.range l.length).all fun j => decide (E l i ≤ E l j) || K k j
theorem vld_iff {l : List Ent} {k : List Bool} : vld l k = true ↔ Needs l k := by
  unfold vld Needs
  simp only [List.all_eq_true, List.mem_range, Bool.or_eq_true, Bool.not_eq_true', decide_eq_true_eq]
  constructor
  · intro h i hi hk j hj hlt
    rcases h i hi with h | h
    · rw [hk] at h; cases h
    · rcases h j hj with h | h
      · omega
      · exact h
  · intro h i hi
    cases hk : K k i with
    | false => exact .inl rfl
    | true =>
      refine .inr fun j hj => ?_
      by_cases hlt : E l i ≤ E l j
      · exact .inl hlt
      · exact .inr (h i hi hk j hj (by omega))

/-! ### sets as numbers -/

def allB : Nat → List (List Bool)
  | 0 => [[]]
  | n + 1 => (allB n).map (false :: ·) ++ (allB n).map (true :: ·)
theorem mem_allB : ∀ {n : Nat} {k : List Bool}, k ∈ allB n ↔ k.length = n
  | 0, k => by simp [allB]
  | n + 1, [] => by simp [allB]
  | n + 1, b :: k => by
    cases b <;> simp [allB, mem_allB (n := n) (k := k)]

def ltB : List Bool → List Bool → Bool
  | a :: x, b :: y => if a = b then ltB x y else b
  | _, _ => false

theorem allB_sorted : ∀ n, (allB n).Pairwise (fun a b => ltB a b = true)
  | 0 => by simp [allB]
  | n + 1 => by
    unfold allB
    refine List.pairwise_append.2 ⟨?_, ?_, ?_⟩
    · exact List.pairwise_map.2 ((allB_sorted n).imp fun {a b} h => by simpa [ltB] using h)
    · exact List.pairwise_map.2 ((allB_sorted n).imp fun {a b} h => by simpa [ltB] using h)
    · intro a ha b hb
      obtain ⟨x, _, rfl⟩ := List.mem_map.1 ha
      obtain ⟨y, _, rfl⟩ := List.mem_map.1 hb
      simp [ltB]

/-- Where two of them part first. -/
theorem ltB_iff : ∀ {a b : List Bool}, a.length = b.length → (ltB a b = true ↔ ∃ i, i < a.length ∧ a.take i = b.take i ∧ K a i = false ∧ K b i = true)
  | [], [], _ => by simp [ltB]
  | x :: a, y :: b, h => by
    have h' : a.length = b.length := by simpa using h
    unfold ltB
    by_cases e : x = y
    · subst e
      rw [if_pos rfl, ltB_iff h']
      constructor
      · rintro ⟨i, hi, ht, ha, hb⟩
        exact ⟨i + 1, by simpa using hi, by simp [ht], ha, hb⟩
      · rintro ⟨i, hi, ht, ha, hb⟩
        cases i with
        | zero => simp [K] at ha hb; rw [ha] at hb; cases hb
        | succ i => exact ⟨i, by simpa using hi, by simpa using ht, ha, hb⟩
    · rw [if_neg e]
      constructor
      · rintro rfl
        refine ⟨0, by simp, by simp, ?_, rfl⟩
        show x = false
        cases x with
        | false => rfl
        | true => exact absurd rfl e
      · rintro ⟨i, hi, ht, ha, hb⟩
        cases i with
        | zero => exact hb
        | succ i => simp at ht; exact absurd ht.1 e
  | [], _ :: _, h => by simp at h
  | _ :: _, [], h => by simp at h

theorem ltB_irrefl : ∀ a : List Bool, ltB a a = false
  | [] => rfl
  | x :: a => by unfold ltB; rw [if_pos rfl]; exact ltB_irrefl a
theorem ltB_trans : ∀ {a b c : List Bool}, ltB a b = true → ltB b c = true → ltB a c = true
  | x :: a, y :: b, z :: c, h, k => by
    unfold ltB at h k ⊢
    by_cases e : x = y
    · subst e
      rw [if_pos rfl] at h
      by_cases e2 : x = z
      · rw [if_pos e2] at k ⊢; exact ltB_trans h k
      · rw [if_neg e2] at k ⊢; exact k
    · rw [if_neg e] at h
      subst h
      by_cases e2 : (true : Bool) = z
      · subst e2; rw [if_neg e]
      · rw [if_neg e2] at k; exact absurd k.symm e2
  | [], _, _, h, _ => by simp [ltB] at h
  | _ :: _, [], _, h, _ => by simp [ltB] at h
  | _ :: _, _ :: _, [], _, k => by simp [ltB] at k
theorem ltB_asymm {a b : List Bool} (h : ltB a b = true) : ltB b a = false := by
  cases k : ltB b a with
  | false => rfl
  | true => have := ltB_trans h k; rw [ltB_irrefl] at this; cases this
theorem ltB_total : ∀ {a b : List Bool}, a.length = b.length → ltB a b = true ∨ a = b ∨ ltB b a = true
  | [], [], _ => .inr (.inl rfl)
  | x :: a, y :: b, h => by
    have h' : a.length = b.length := by simpa using h
    unfold ltB
    by_cases e : x = y
    · subst e
      simp only [if_true]
      rcases ltB_total h' with k | k | k
      · exact .inl k
      · exact .inr (.inl (by rw [k]))
      · exact .inr (.inr k)
    · rw [if_neg e, if_neg (fun h => e h.symm)]
      cases x <;> cases y <;> simp at e ⊢
  | [], _ :: _, h => by simp at h
  | _ :: _, [], h => by simp at h

/-! ### the valid sets, in order -/

def valids (l : List Ent) : List (List Bool) := (allB l.length).filter (vld l)
theorem mem_valids {l : List Ent} {k : List Bool} : k ∈ valids l ↔ k.length = l.length ∧ vld l k = true := by unfold valids; rw [List.mem_filter, mem_allB]
theorem valids_sorted (l : List Ent) : (valids l).Pairwise (fun a b => ltB a b = true) := (allB_sorted _).filter _

/-- May the entry i be the first one that is added? -/
def okAt (l : List Ent) (k : List Bool) (i : Nat) : Bool := !K k i && (List.range i).all fun j => decide (E l i ≤ E l j) || K k j
def cnd (l : List Ent) (k : List Bool) (i : Nat) : List Bool := k.take i ++ true :: List.replicate (l.length - i - 1) false

theorem okAt_iff {l : List Ent} {k : List Bool} {i : Nat} : okAt l k i = true ↔ K k i = false ∧ ∀ j, j < i → E l j < E l i → K k j = true := by
  unfold okAt
  simp only [Bool.and_eq_true, Bool.not_eq_true', List.all_eq_true, List.mem_range, Bool.or_eq_true, decide_eq_true_eq]
  refine and_congr Iff.rfl ⟨fun h j hj hlt => (h j hj).elim (fun h => by omega) id, fun h j hj => ?_⟩
  by_cases hlt : E l i ≤ E l j
  · exact .inl hlt
  · exact .inr (h j hj (by omega))

theorem cnd_len {l : List Ent} {k : List Bool} {i : Nat} (hk : k.length = l.length) (hi : i < l.length) : (cnd l k i).length = l.length := by
  simp [cnd]; omega
theorem cnd_lo {l : List Ent} {k : List Bool} {i j : Nat} (hk : k.length = l.length) (hi : i < l.length) (hj : j < i) : K (cnd l k i) j = K k j := by
  unfold K cnd
  rw [List.getD_eq_getElem?_getD, List.getD_eq_getElem?_getD, List.getElem?_append_left (by simp; omega), List.getElem?_take_of_lt hj]
theorem cnd_at {l : List Ent} {k : List Bool} {i : Nat} (hk : k.length = l.length) (hi : i < l.length) : K (cnd l k i) i = true := by
  unfold K cnd
  rw [List.getD_eq_getElem?_getD, List.getElem?_append_right (by simp; omega)]
  simp [show min i k.length = i by omega]
theorem cnd_hi {l : List Ent} {k : List Bool} {i j : Nat} (hk : k.length = l.length) (hi : i < l.length) (hj : i < j) : K (cnd l k i) j = false := by
  unfold K cnd
  rw [List.getD_eq_getElem?_getD, List.getElem?_append_right (by simp; omega), List.length_take, show min i k.length = i by omega]
  obtain ⟨m, hm⟩ : ∃ m, j - i = m + 1 := ⟨j - i - 1, by omega⟩
  rw [hm, List.getElem?_cons_succ, List.getElem?_replicate]
  split <;> rfl
theorem cnd_take {l : List Ent} {k : List Bool} {i : Nat} (hk : k.length = l.length) (hi : i < l.length) : (cnd l k i).take i = k.take i := by
  unfold cnd; rw [List.take_append_of_le_length (by simp; omega), List.take_take, Nat.min_self]

theorem ok_valid {l : List Ent} {k : List Bool} {i : Nat} (hm : Mono l) (hk : k.length = l.length) (hi : i < l.length) (hv : Needs l k) (ho : okAt l k i = true) : Needs l (cnd l k i) := by
  obtain ⟨h0, h1⟩ := okAt_iff.1 ho
  intro a ha hka b hb hlt
  have hba : b < a := by
    rcases Nat.lt_or_ge b a with h | h
    · exact h
    · have := hm a b h hb; omega
  rcases Nat.lt_trichotomy a i with h | h | h
  · rw [cnd_lo hk hi h] at hka
    rw [cnd_lo hk hi (by omega)]
    exact hv a ha hka b hb hlt
  · subst h
    rw [cnd_lo hk hi hba]; exact h1 b hba hlt
  · rw [cnd_hi hk hi h] at hka; cases hka
theorem ok_lt {l : List Ent} {k : List Bool} {i : Nat} (hk : k.length = l.length) (hi : i < l.length) (ho : okAt l k i = true) : ltB k (cnd l k i) = true :=
  (ltB_iff (by rw [cnd_len hk hi, hk])).2 ⟨i, by omega, (cnd_take hk hi).symm, (okAt_iff.1 ho).1, cnd_at hk hi⟩
/-- The least list with such a beginning. -/
theorem cnd_least {l : List Ent} {k k2 : List Bool} {i : Nat} (hk : k.length = l.length) (hk2 : k2.length = l.length) (hi : i < l.length) (ht : k.take i = k2.take i) (h2 : K k2 i = true) : cnd l k i = k2 ∨ ltB (cnd l k i) k2 = true := by
  rcases ltB_total (a := cnd l k i) (b := k2) (by rw [cnd_len hk hi, hk2]) with h | h | h
  · exact .inr h
  · exact .inl h
  · exfalso
    obtain ⟨j, hj, t, a, b⟩ := (ltB_iff (by rw [cnd_len hk hi, hk2])).1 h
    rcases Nat.lt_trichotomy j i with q | q | q
    · rw [cnd_lo hk hi q] at b
      have e1 : K k j = K k2 j := by
        have := congrArg (fun x => K x j) ht
        unfold K at this ⊢
        simp only [List.getD_eq_getElem?_getD, List.getElem?_take_of_lt q] at this ⊢
        exact this
      rw [e1, a] at b; cases b
    · subst q; rw [h2] at a; cases a
    · rw [cnd_hi hk hi q] at b; cases b
theorem ok_above {l : List Ent} {k k2 : List Bool} (hm : Mono l) (hk : k.length = l.length) (hk2 : k2.length = l.length) (hv2 : Needs l k2) (hlt : ltB k k2 = true) :
    ∃ i, i < l.length ∧ okAt l k i = true ∧ (cnd l k i = k2 ∨ ltB (cnd l k i) k2 = true) := by
  obtain ⟨i, hi, ht, h0, h1⟩ := (ltB_iff (by rw [hk, hk2])).1 hlt
  rw [hk] at hi
  refine ⟨i, hi, okAt_iff.2 ⟨h0, fun j hj he => ?_⟩, cnd_least hk hk2 hi ht h1⟩
  have e1 : K k j = K k2 j := by
    have := congrArg (fun x => K x j) ht
    unfold K at this ⊢
    simp only [List.getD_eq_getElem?_getD, List.getElem?_take_of_lt hj] at this ⊢
    exact this
  rw [e1]; exact hv2 i hi h1 j (by omega) he
theorem cnd_anti {l : List Ent} {k : List Bool} {i j : Nat} (hk : k.length = l.length) (hij : i < j) (hj : j < l.length) (ho : K k i = false) : ltB (cnd l k j) (cnd l k i) = true := by
  refine (ltB_iff (by rw [cnd_len hk hj, cnd_len hk (by omega)])).2 ⟨i, by rw [cnd_len hk hj]; omega, ?_, ?_, cnd_at hk (by omega)⟩
  · rw [cnd_take hk (by omega)]
    unfold cnd
    rw [List.take_append_of_le_length (by simp; omega), List.take_take, Nat.min_eq_left (by omega)]
  · rw [cnd_lo hk hj hij]; exact ho

/-- The greatest index that may. -/
def nextI (l : List Ent) (k : List Bool) : Nat → Option Nat
  | 0 => none
  | n + 1 => if okAt l k n then some n else nextI l k n
theorem nextI_some {l : List Ent} {k : List Bool} : ∀ {n i : Nat}, nextI l k n = some i → i < n ∧ okAt l k i = true ∧ ∀ j, i < j → j < n → okAt l k j = false
  | 0, i, h => by cases h
  | n + 1, i, h => by
    unfold nextI at h
    split at h
    · rename_i ho; cases h; exact ⟨by omega, ho, fun j h1 h2 => by omega⟩
    · rename_i ho
      obtain ⟨a, b, c⟩ := nextI_some h
      refine ⟨by omega, b, fun j h1 h2 => ?_⟩
      rcases Nat.lt_or_ge j n with h | h
      · exact c j h1 h
      · have : j = n := by omega
        subst this; simpa using ho
theorem nextI_none {l : List Ent} {k : List Bool} : ∀ {n : Nat}, nextI l k n = none → ∀ j, j < n → okAt l k j = false
  | 0, _, j, h => by omega
  | n + 1, h, j, hj => by
    unfold nextI at h
    split at h
    · cases h
    · rename_i ho
      rcases Nat.lt_or_ge j n with h' | h'
      · exact nextI_none h j h'
      · have : j = n := by omega
        subst this; simpa using ho

/-- What comes behind a valid set in the list of all. -/
theorem next_split {l : List Ent} (hm : Mono l) {pre post : List (List Bool)} {k : List Bool} (h : valids l = pre ++ k :: post) : (nextI l k l.length).map (cnd l k) = post.head? := by
  have hin : k ∈ valids l := by rw [h]; simp
  obtain ⟨hk, hv⟩ := mem_valids.1 hin
  have hv := vld_iff.1 hv
  have hs := valids_sorted l
  rw [h, List.pairwise_append] at hs
  obtain ⟨_, hs2, hs3⟩ := hs
  obtain ⟨hkp, hs2⟩ := List.pairwise_cons.1 hs2
  -- a valid set above k stands behind it
  have above : ∀ k2, k2.length = l.length → Needs l k2 → ltB k k2 = true → k2 ∈ post := by
    intro k2 h1 h2 h3
    have : k2 ∈ valids l := mem_valids.2 ⟨h1, vld_iff.2 h2⟩
    rw [h] at this
    rcases List.mem_append.1 this with q | q
    · have := hs3 k2 q k (by simp)
      rw [ltB_asymm h3] at this; cases this
    · rcases List.mem_cons.1 q with q | q
      · subst q; rw [ltB_irrefl] at h3; cases h3
      · exact q
  cases hn : nextI l k l.length with
  | none =>
    cases post with
    | nil => rfl
    | cons c post =>
      exfalso
      have hc : c ∈ valids l := by rw [h]; simp
      obtain ⟨h1, h2⟩ := mem_valids.1 hc
      obtain ⟨i, hi, ho, _⟩ := ok_above hm hk h1 (vld_iff.1 h2) (hkp c (by simp))
      rw [nextI_none hn i hi] at ho; cases ho
  | some m =>
    obtain ⟨hml, hmo, hmax⟩ := nextI_some hn
    have hb : cnd l k m ∈ post := above _ (cnd_len hk hml) (ok_valid hm hk hml hv hmo) (ok_lt hk hml hmo)
    cases post with
    | nil => cases hb
    | cons c post =>
      simp only [Option.map_some, List.head?_cons, Option.some.injEq]
      have hc : c ∈ valids l := by rw [h]; simp
      obtain ⟨h1, h2⟩ := mem_valids.1 hc
      obtain ⟨i, hi, ho, hle⟩ := ok_above hm hk h1 (vld_iff.1 h2) (hkp c (by simp))
      have him : i ≤ m := by
        rcases Nat.lt_or_ge m i with q | q
        · rw [hmax i q hi] at ho; cases ho
        · exact q
      have hle2 : cnd l k m = c ∨ ltB (cnd l k m) c = true := by
        rcases Nat.lt_or_eq_of_le him with q | rfl
        · have h3 := cnd_anti hk q hml (okAt_iff.1 ho).1
          rcases hle with e | e
          · rw [e] at h3; exact .inr h3
          · exact .inr (ltB_trans h3 e)
        · exact hle
      rcases hle2 with e | e
      · exact e
      · rcases List.mem_cons.1 hb with q | q
        · exact q
        · have := (List.pairwise_cons.1 hs2).1 _ q
          rw [ltB_asymm this] at e; cases e

/-- None is the first one. -/
theorem none_valid (l : List Ent) : Needs l (List.replicate l.length false) := fun i hi hk => by
  unfold K at hk; rw [List.getD_eq_getElem?_getD, List.getElem?_replicate] at hk; split at hk <;> cases hk
theorem valids_head (l : List Ent) : (valids l).head? = some (List.replicate l.length false) := by
  have hin : List.replicate l.length false ∈ valids l := mem_valids.2 ⟨by simp, vld_iff.2 (none_valid l)⟩
  have hs := valids_sorted l
  cases hv : valids l with
  | nil => rw [hv] at hin; cases hin
  | cons c r =>
    rw [hv] at hin hs
    rcases List.mem_cons.1 hin with q | q
    · rw [q]; rfl
    · exfalso
      have h1 := (List.pairwise_cons.1 hs).1 _ q
      have hl : c.length = l.length := (mem_valids.1 (by rw [hv]; simp : c ∈ valids l)).1
      obtain ⟨i, hi, _, _, hk⟩ := (ltB_iff (by simp [hl])).1 h1
      unfold K at hk; rw [List.getD_eq_getElem?_getD, List.getElem?_replicate] at hk; split at hk <;> cases hk
theorem all_valid (l : List Ent) : Needs l (List.replicate l.length true) := fun i hi hk j hj hlt => by
  unfold K; rw [List.getD_eq_getElem?_getD, List.getElem?_replicate, if_pos hj]; rfl

end Go.Cr

/-
  How many valid sets there are; sets as numbers; in plain Lean.
-/
set_option linter.unusedVariables false
namespace Go.Cr

/-! ### how many -/

theorem allB_add : ∀ (m n : Nat), allB (m + n) = (allB m).flatMap fun a => (allB n).map (a ++ ·)
  | 0, n => by simp [allB]
  | m + 1, n => by
    have e : ∀ n, allB (n + 1) = (allB n).map (false :: ·) ++ (allB n).map (true :: ·) := fun _ => rfl
    rw [Nat.succ_add, e, e, allB_add m n, List.flatMap_append, List.map_flatMap, List.map_flatMap, List.flatMap_map, List.flatMap_map]
    simp only [List.map_map]
    rfl

/-- The first group, and what is behind it. -/
def grp (l : List Ent) : Nat := match l with | [] => 0 | x :: r => ((x :: r).takeWhile fun y => y.2.2.1 == x.2.2.1).length

theorem grp_spec {x : Ent} {r : List Ent} : (∀ y ∈ (x :: r).take (grp (x :: r)), y.2.2.1 = x.2.2.1) ∧ 0 < grp (x :: r) ∧ grp (x :: r) ≤ (x :: r).length ∧
    ∀ y, ((x :: r).drop (grp (x :: r))).head? = some y → y.2.2.1 ≠ x.2.2.1 := by
  have key : ∀ (l : List Ent) (p : Ent → Bool), (∀ y ∈ l.take (l.takeWhile p).length, p y = true) ∧ (l.takeWhile p).length ≤ l.length ∧ ∀ y, (l.drop (l.takeWhile p).length).head? = some y → p y = false := by
    intro l p
    induction l with
    | nil => simp
    | cons a l ih =>
      by_cases h : p a = true
      · rw [List.takeWhile_cons_of_pos h]
        refine ⟨?_, by simpa using ih.2.1, ?_⟩
        · intro y hy
          simp only [List.length_cons, List.take_succ_cons, List.mem_cons] at hy
          rcases hy with rfl | hy
          · exact h
          · exact ih.1 y hy
        · simpa using ih.2.2
      · rw [List.takeWhile_cons_of_neg h]
        refine ⟨by simp, by simp, ?_⟩
        intro y hy
        simp only [List.length_nil, List.drop_zero, List.head?_cons, Option.some.injEq] at hy
        subst hy; simpa using h
  obtain ⟨a, b, c⟩ := key (x :: r) fun y => y.2.2.1 == x.2.2.1
  refine ⟨fun y hy => by simpa using a y hy, ?_, b, fun y hy => by simpa using c y hy⟩
  show 0 < ((x :: r).takeWhile fun y => y.2.2.1 == x.2.2.1).length
  rw [List.takeWhile_cons_of_pos (by simp)]; simp

theorem K_app_lo {a b : List Bool} {i : Nat} (h : i < a.length) : K (a ++ b) i = K a i := by unfold K; rw [List.getD_eq_getElem?_getD, List.getD_eq_getElem?_getD, List.getElem?_append_left h]
theorem K_app_hi {a b : List Bool} {i : Nat} : K (a ++ b) (a.length + i) = K b i := by unfold K; rw [List.getD_eq_getElem?_getD, List.getD_eq_getElem?_getD, List.getElem?_append_right (by omega)]; rw [Nat.add_sub_cancel_left]
theorem E_app_lo {a b : List Ent} {i : Nat} (h : i < a.length) : E (a ++ b) i = E a i := by unfold E; rw [List.getD_eq_getElem?_getD, List.getD_eq_getElem?_getD, List.getElem?_append_left h]
theorem E_app_hi {a b : List Ent} {i : Nat} : E (a ++ b) (a.length + i) = E b i := by unfold E; rw [List.getD_eq_getElem?_getD, List.getD_eq_getElem?_getD, List.getElem?_append_right (by omega)]; rw [Nat.add_sub_cancel_left]

/-- A cache in two parts with a barrier between them. -/
theorem vld_app {a b : List Ent} {k m : List Bool} (hk : k.length = a.length) (hm : m.length = b.length) (hb : ∀ i j, i < a.length → j < b.length → E a i < E b j) :
    Needs (a ++ b) (k ++ m) ↔ Needs a k ∧ Needs b m ∧ ((∃ j, j < b.length ∧ K m j = true) → ∀ i, i < a.length → K k i = true) := by
  unfold Needs
  constructor
  · intro h
    refine ⟨fun i hi hki j hj hlt => ?_, fun i hi hki j hj hlt => ?_, fun ⟨j, hj, hmj⟩ i hi => ?_⟩
    · have := h i (by simp; omega) (by rw [K_app_lo (by omega)]; exact hki) j (by simp; omega) (by rw [E_app_lo hi, E_app_lo hj]; exact hlt)
      rwa [K_app_lo (by omega)] at this
    · have := h (a.length + i) (by simp; omega) (by rw [← hk, K_app_hi]; exact hki) (a.length + j) (by simp; omega) (by rw [E_app_hi, E_app_hi]; exact hlt)
      rwa [← hk, K_app_hi] at this
    · have := h (a.length + j) (by simp; omega) (by rw [← hk, K_app_hi]; exact hmj) i (by simp; omega) (by rw [E_app_hi, E_app_lo hi]; exact hb i j hi hj)
      rwa [K_app_lo (by omega)] at this
  · rintro ⟨h1, h2, h3⟩ i hi hki j hj hlt
    simp only [List.length_append] at hi hj
    rcases Nat.lt_or_ge i a.length with q | q
    · rw [K_app_lo (by omega)] at hki
      rw [E_app_lo q] at hlt
      rcases Nat.lt_or_ge j a.length with q2 | q2
      · rw [E_app_lo q2] at hlt
        rw [K_app_lo (by omega)]; exact h1 i q hki j q2 hlt
      · obtain ⟨j', rfl⟩ := Nat.exists_eq_add_of_le q2
        rw [E_app_hi] at hlt
        have := hb i j' q (by omega); omega
    · obtain ⟨i', rfl⟩ := Nat.exists_eq_add_of_le q
      rw [← hk, K_app_hi] at hki
      rw [E_app_hi] at hlt
      rcases Nat.lt_or_ge j a.length with q2 | q2
      · rw [K_app_lo (by omega)]; exact h3 ⟨i', by omega, hki⟩ j q2
      · obtain ⟨j', rfl⟩ := Nat.exists_eq_add_of_le q2
        rw [E_app_hi] at hlt
        rw [← hk, K_app_hi]; exact h2 i' (by omega) hki j' (by omega) hlt

theorem none_iff {m : List Bool} : (∃ j, j < m.length ∧ K m j = true) ↔ m ≠ List.replicate m.length false := by
  constructor
  · rintro ⟨j, hj, h⟩ e
    rw [e] at h
    unfold K at h; rw [List.getD_eq_getElem?_getD, List.getElem?_replicate] at h; split at h <;> cases h
  · intro h
    apply Classical.byContradiction
    intro hn
    apply h
    apply List.ext_getElem
    · simp
    · intro i h1 h2
      simp only [List.getElem_replicate]
      cases hc : m[i] with
      | false => rfl
      | true => exact absurd ⟨i, h1, by rw [K_get h1]; exact hc⟩ hn
theorem all_iff {m : List Bool} : (∀ i, i < m.length → K m i = true) ↔ m = List.replicate m.length true := by
  constructor
  · intro h
    apply List.ext_getElem
    · simp
    · intro i h1 h2
      rw [List.getElem_replicate, ← K_get h1]; exact h i h1
  · intro e i hi
    rw [e]; unfold K; rw [List.getD_eq_getElem?_getD, List.getElem?_replicate, if_pos hi]; rfl

theorem flat_len_sum {α β : Type} {f : α → List β} : ∀ {l : List α}, (l.flatMap f).length = (l.map fun x => (f x).length).sum
  | [] => rfl
  | x :: l => by simp [flat_len_sum (l := l)]

theorem allB_len : ∀ n, (allB n).length = 2 ^ n
  | 0 => rfl
  | n + 1 => by unfold allB; simp [allB_len n, Nat.pow_succ]; omega

theorem filter_const_false {α : Type} {l : List α} {p : α → Bool} (h : ∀ x ∈ l, p x = false) : (l.filter p).length = 0 := by
  rw [List.filter_eq_nil_iff.2 (fun x hx => by simp [h x hx])]; rfl

/-- Of a part by itself. -/
theorem count_app {a b : List Ent} (hb : ∀ i j, i < a.length → j < b.length → E a i < E b j) : (valids (a ++ b)).length + 1 = (valids a).length + (valids b).length := by
  unfold valids
  rw [List.length_append, allB_add, List.filter_flatMap, flat_len_sum]
  simp only [List.filter_map, List.length_map]
  -- of a beginning k: all endings, if it is full, else one, if it is valid
  have each : ∀ k ∈ allB a.length, ((allB b.length).filter (vld (a ++ b) ∘ fun x => k ++ x)).length =
      if k = List.replicate a.length true then ((allB b.length).filter (vld b)).length else if vld a k = true then 1 else 0 := by
    intro k hk
    have hk := mem_allB.1 hk
    by_cases hf : k = List.replicate a.length true
    · rw [if_pos hf]
      congr 1
      refine List.filter_congr fun m hm => ?_
      have hm := mem_allB.1 hm
      have e : vld (a ++ b) (k ++ m) = true ↔ vld b m = true := by
        rw [vld_iff, vld_iff, vld_app hk hm hb]
        constructor
        · exact fun h => h.2.1
        · exact fun h => ⟨hf ▸ all_valid a, h, fun _ => by rw [← hk]; exact all_iff.2 (by rw [hk]; exact hf)⟩
      simp only [Function.comp]
      cases h1 : vld (a ++ b) (k ++ m) <;> cases h2 : vld b m <;> simp_all
    · rw [if_neg hf]
      have hnf : ¬ ∀ i, i < a.length → K k i = true := fun h => hf (by rw [← hk]; exact all_iff.1 (by rw [hk]; exact h))
      have e : ∀ m ∈ allB b.length, (vld (a ++ b) ∘ fun x => k ++ x) m = (vld a k && decide (m = List.replicate b.length false)) := by
        intro m hm
        have hm := mem_allB.1 hm
        simp only [Function.comp]
        have e : vld (a ++ b) (k ++ m) = true ↔ vld a k = true ∧ m = List.replicate b.length false := by
          rw [vld_iff, vld_iff, vld_app hk hm hb]
          constructor
          · rintro ⟨h1, h2, h3⟩
            refine ⟨h1, Classical.byContradiction fun hn => hnf (h3 ?_)⟩
            have := (none_iff (m := m)).2 (by rw [hm]; exact hn)
            rwa [hm] at this
          · rintro ⟨h1, h2⟩
            refine ⟨h1, h2 ▸ none_valid b, fun ⟨j, hj, hmj⟩ => absurd h2 ?_⟩
            have := (none_iff (m := m)).1 ⟨j, by omega, hmj⟩
            rwa [hm] at this
        cases h1 : vld (a ++ b) (k ++ m) <;> cases h2 : vld a k <;> by_cases h3 : m = List.replicate b.length false <;> simp_all
      rw [List.filter_congr e]
      by_cases hv : vld a k = true
      · rw [if_pos hv]
        simp only [hv, Bool.true_and]
        have nd : (allB b.length).Nodup := (allB_sorted _).imp fun {x y} h e => by subst e; rw [ltB_irrefl] at h; cases h
        have hin : List.replicate b.length false ∈ allB b.length := mem_allB.2 (by simp)
        have : ((allB b.length).filter fun m => decide (m = List.replicate b.length false)).length = (allB b.length).count (List.replicate b.length false) := by
          rw [List.count_eq_countP, List.countP_eq_length_filter]; congr 1; exact List.filter_congr fun x _ => (Bool.beq_eq_decide_eq x _).symm
        rw [this]
        exact List.Nodup.count nd ▸ (by simp [hin])
      · rw [if_neg hv]
        exact filter_const_false fun m hm => by simp [hv]
  rw [List.map_congr_left each]
  -- the full one is one of the valid ones
  have hfull : List.replicate a.length true ∈ allB a.length := mem_allB.2 (by simp)
  have hvf : vld a (List.replicate a.length true) = true := vld_iff.2 (all_valid a)
  have nd : (allB a.length).Nodup := (allB_sorted _).imp fun {x y} h e => by subst e; rw [ltB_irrefl] at h; cases h
  generalize ((allB b.length).filter (vld b)).length = c
  generalize List.replicate a.length true = f at hfull hvf
  have key : ∀ L : List (List Bool), L.Nodup → (L.map fun k => if k = f then c else if vld a k = true then 1 else 0).sum + (if f ∈ L then 1 else 0) = (L.filter (vld a)).length + (if f ∈ L then c else 0) := by
    intro L
    induction L with
    | nil => intro _; simp
    | cons k L ih =>
      intro hn
      obtain ⟨hkn, hn⟩ := List.nodup_cons.1 hn
      have := ih hn
      simp only [List.map_cons, List.sum_cons, List.mem_cons]
      by_cases e : k = f
      · subst e
        have hnot : ¬ k ∈ L := hkn
        simp only [if_true, true_or, if_neg hnot] at this ⊢
        rw [List.filter_cons_of_pos hvf, List.length_cons]
        omega
      · have e' : ¬ f = k := fun h => e h.symm
        simp only [if_neg e, e', false_or]
        by_cases hv : vld a k = true
        · rw [if_pos hv, List.filter_cons_of_pos hv, List.length_cons]; omega
        · rw [if_neg hv, List.filter_cons_of_neg hv]; omega
  have := key _ nd
  rw [if_pos hfull, if_pos hfull] at this
  omega

/-- Of one epoch, all sets are valid. -/
theorem count_one {a : List Ent} {e : Int} (h : ∀ y ∈ a, y.2.2.1 = e) : (valids a).length = 2 ^ a.length := by
  unfold valids
  rw [List.filter_eq_self.2, allB_len]
  intro k _
  refine vld_iff.2 fun i hi _ j hj hlt => ?_
  rw [E_get hi, E_get hj, h _ (List.getElem_mem hi), h _ (List.getElem_mem hj)] at hlt
  omega

theorem count_grp {x : Ent} {r : List Ent} (hm : Mono (x :: r)) : (valids (x :: r)).length + 1 = 2 ^ grp (x :: r) + (valids ((x :: r).drop (grp (x :: r)))).length := by
  obtain ⟨h1, h2, h3, h4⟩ := grp_spec (x := x) (r := r)
  generalize hl : x :: r = l at *
  have hs : l = l.take (grp l) ++ l.drop (grp l) := (List.take_append_drop _ _).symm
  have hlen : (l.take (grp l)).length = grp l := by simp; omega
  have hx0 : E l 0 = x.2.2.1 := by rw [← hl]; rfl
  have := count_app (a := l.take (grp l)) (b := l.drop (grp l)) fun i j hi hj => by
    have hj' : j < l.length - grp l := by simpa using hj
    have e1 : E (l.take (grp l)) i = x.2.2.1 := by rw [E_get hi]; exact h1 _ (List.getElem_mem hi)
    have e2 : E (l.drop (grp l)) j = E l (grp l + j) := by
      rw [E_get hj, E_get (by omega), List.getElem_drop]
    have e3 : E l (grp l) ≠ x.2.2.1 := by
      have hg : grp l < l.length := by omega
      rw [E_get hg]
      exact h4 l[grp l] (by rw [List.head?_drop, List.getElem?_eq_getElem hg])
    have e4 := hm 0 (grp l) (by omega) (by omega)
    have e5 := hm (grp l) (grp l + j) (by omega) (by omega)
    omega
  rw [← hs, count_one h1, hlen] at this
  exact this

/-- The count, with its limit. -/
def cntP (l : List Ent) : Int := ((min (valids l).length (2 ^ 30) : Nat) : Int)

theorem valids_pos (l : List Ent) : 1 ≤ (valids l).length := by
  have := valids_head l
  cases h : valids l with
  | nil => rw [h] at this; cases this
  | cons => simp
theorem valids_le (l : List Ent) : (valids l).length ≤ 2 ^ l.length := by
  unfold valids
  exact Nat.le_trans (List.length_filter_le _ _) (by rw [allB_len]; exact Nat.le_refl _)

/-! ### sets as numbers -/

def numB (k : List Bool) : Nat := k.foldl (fun x b => 2 * x + (if b then 1 else 0)) 0
theorem foldl_num : ∀ (k : List Bool) (x : Nat), k.foldl (fun x b => 2 * x + (if b then 1 else 0)) x = x * 2 ^ k.length + numB k
  | [], x => by simp [numB]
  | b :: k, x => by
    unfold numB
    rw [List.foldl_cons, List.foldl_cons, foldl_num k, foldl_num k (2 * 0 + _), List.length_cons, Nat.pow_succ]
    simp only [Nat.mul_zero, Nat.zero_add, Nat.add_mul]
    have : 2 * x * 2 ^ k.length = x * (2 ^ k.length * 2) := by rw [Nat.mul_comm 2 x, Nat.mul_assoc, Nat.mul_comm 2]
    omega
theorem numB_cons (b : Bool) (k : List Bool) : numB (b :: k) = (if b then 2 ^ k.length else 0) + numB k := by
  show (b :: k).foldl _ 0 = _
  rw [List.foldl_cons, foldl_num]
  cases b <;> simp
theorem numB_snoc (k : List Bool) (b : Bool) : numB (k ++ [b]) = 2 * numB k + (if b then 1 else 0) := by unfold numB; rw [List.foldl_append]; rfl
theorem numB_lt : ∀ k : List Bool, numB k < 2 ^ k.length
  | [] => by decide
  | b :: k => by
    rw [numB_cons, List.length_cons, Nat.pow_succ]
    have := numB_lt k
    split <;> omega
theorem ltB_num : ∀ {a b : List Bool}, a.length = b.length → (ltB a b = true ↔ numB a < numB b)
  | [], [], _ => by simp [ltB]
  | x :: a, y :: b, h => by
    have h' : a.length = b.length := by simpa using h
    have := ltB_num h'
    have h1 := numB_lt a
    have h2 := numB_lt b
    rw [numB_cons, numB_cons, h'] at *
    unfold ltB
    cases x <;> cases y <;> simp [this] <;> omega
  | [], _ :: _, h => by simp at h
  | _ :: _, [], h => by simp at h
theorem numB_false : ∀ n, numB (List.replicate n false) = 0
  | 0 => rfl
  | n + 1 => by rw [List.replicate_succ, numB_cons, numB_false n]; rfl
theorem numB_true : ∀ n, numB (List.replicate n true) + 1 = 2 ^ n
  | 0 => rfl
  | n + 1 => by
    have := numB_true n
    rw [List.replicate_succ, numB_cons, List.length_replicate, Nat.pow_succ, if_pos rfl]; omega

/-- The digits of a number. -/
def bitsB (n x : Nat) : List Bool := (List.range n).map fun i => decide (x / 2 ^ (n - 1 - i) % 2 = 1)
theorem bitsB_succ (n x : Nat) : bitsB (n + 1) x = decide (x / 2 ^ n % 2 = 1) :: bitsB n x := by
  unfold bitsB
  rw [List.range_succ_eq_map, List.map_cons, List.map_map]
  congr 1
  refine List.map_congr_left fun i hi => ?_
  simp only [Function.comp]
  have : n + 1 - 1 - (i + 1) = n - 1 - i := by omega
  rw [this]
theorem bitsB_mod : ∀ (n x y : Nat), bitsB n (x + 2 ^ n * y) = bitsB n x
  | 0, x, y => rfl
  | n + 1, x, y => by
    rw [bitsB_succ, bitsB_succ]
    have e1 : x + 2 ^ (n + 1) * y = x + 2 ^ n * (2 * y) := by rw [Nat.pow_succ, Nat.mul_assoc]
    rw [e1, bitsB_mod n x (2 * y), Nat.add_mul_div_left _ _ (Nat.two_pow_pos n), Nat.add_mul_mod_self_left]
theorem allB_bits : ∀ n, allB n = (List.range (2 ^ n)).map (bitsB n)
  | 0 => rfl
  | n + 1 => by
    unfold allB
    rw [allB_bits n, Nat.pow_succ, Nat.mul_two, List.range_add, List.map_append, List.map_map, List.map_map, List.map_map]
    congr 1
    · refine List.map_congr_left fun x hx => ?_
      have hx := List.mem_range.1 hx
      simp only [Function.comp]
      rw [bitsB_succ, Nat.div_eq_of_lt hx]; rfl
    · refine List.map_congr_left fun x hx => ?_
      have hx := List.mem_range.1 hx
      simp only [Function.comp]
      rw [bitsB_succ]
      have e : 2 ^ n + x = x + 2 ^ n * 1 := by omega
      rw [e, bitsB_mod, Nat.add_mul_div_left _ _ (Nat.two_pow_pos n), Nat.div_eq_of_lt hx]; rfl

end Go.Cr

/-
  Bits of numbers, as the words have them. Nothing here names a program.
-/
set_option linter.unusedVariables false
namespace Go.Sx
open Go Go.Cr

theorem band64' {x : Nat} (hx : x < 4611686018427387904) : (bAnd .i64 (x : Int) 1 == 1) = decide (x % 2 = 1) := by
  have e2 : bAnd .i64 (x : Int) 1 = ((x % 2 : Nat) : Int) := by
    unfold bAnd
    have e3 : (BitVec.ofInt 64 (x : Int) &&& BitVec.ofInt 64 1).toNat = x % 2 := by
      rw [BitVec.toNat_and]
      have e4 : (BitVec.ofInt 64 (x : Int)).toNat = x := by simp [BitVec.toNat_ofInt]; omega
      rw [e4, show (BitVec.ofInt 64 1).toNat = 1 from rfl, Nat.and_one_is_mod]
    show IntKind.wrap .i64 (((BitVec.ofInt 64 (x : Int) &&& BitVec.ofInt 64 1).toNat : Nat) : Int) = _
    rw [e3, wrap_i64 (by omega) (by omega)]
  rw [e2]
  rcases Nat.mod_two_eq_zero_or_one x with k | k <;> rw [k] <;> rfl
theorem pow64' {n : Nat} (hn : n ≤ 60) : IntKind.wrap .i64 ((1 : Int) * 2 ^ (min ((n : Int)).toNat 64)) = ((2 ^ n : Nat) : Int) := by
  rw [Int.toNat_natCast, Nat.min_eq_left (by omega), Int.one_mul]
  have e : (2 : Int) ^ n = ((2 ^ n : Nat) : Int) := by simp
  have : 2 ^ n ≤ 2 ^ 60 := Nat.pow_le_pow_right (by decide) hn
  have e60 : (2 : Nat) ^ 60 = 1152921504606846976 := by decide
  rw [e60] at this
  rw [e]
  generalize 2 ^ n = q at *
  rw [wrap_i64 (by omega) (by omega)]
theorem shr_nat' {x n : Nat} (hn : n ≤ 64) : Int.fdiv (x : Int) (2 ^ (min ((n : Int)).toNat 64)) = ((x / 2 ^ n : Nat) : Int) := by
  rw [Int.toNat_natCast, Nat.min_eq_left hn]
  have e : (2 : Int) ^ n = ((2 ^ n : Nat) : Int) := by simp
  rw [e]; exact (Int.ofNat_fdiv _ _).symm
theorem bitsB_len' (n x : Nat) : (bitsB n x).length = n := by simp [bitsB]
theorem set_map_range' {α : Type} (f : Nat → α) (n i : Nat) (z : α) (hi : i < n) : (((List.range i).map f) ++ List.replicate (n - i) z).set i (f i) = ((List.range (i + 1)).map f) ++ List.replicate (n - (i + 1)) z := by
  rw [List.set_append_right _ _ (by simp), List.range_succ, List.map_append]
  simp only [List.length_map, List.length_range, Nat.sub_self, List.map_cons, List.map_nil]
  obtain ⟨q, hq⟩ : ∃ q, n - i = q + 1 := ⟨n - i - 1, by omega⟩
  have e : n - (i + 1) = q := by omega
  rw [hq, e, List.replicate_succ, List.set_cons_zero]; simp
end Go.Sx
