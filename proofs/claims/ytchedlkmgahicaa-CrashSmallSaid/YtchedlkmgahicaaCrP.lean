/-
  What can survive a crash, in plain Lean: no program in sight.
-/
import Derived.Test.YtchedlkmgahicaaClP
set_option linter.unusedVariables false
namespace Go.Cr

/-- An entry: its block, its word, its epoch. -/
abbrev Ent := Int × Int × Int × Unit
def rightGo : Int → List Ent → Bool
  | _, [] => true
  | e, x :: l => decide (0 ≤ x.1) && (decide (x.1 < 16) && (decide (e ≤ x.2.2.1) && rightGo x.2.2.1 l))
def rightL (l : List Ent) : Bool := rightGo 0 l && decide (l.length ≤ 4096)

/-- The epoch of an entry; whether an entry is kept. -/
def E (l : List Ent) (i : Nat) : Int := (l.getD i (0, 0, 0, ())).2.2.1
def K (k : List Bool) (i : Nat) : Bool := k.getD i false

theorem E_get {l : List Ent} {i : Nat} (h : i < l.length) : E l i = l[i].2.2.1 := by simp [E, List.getD_eq_getElem?_getD, List.getElem?_eq_getElem h]
theorem K_get {k : List Bool} {i : Nat} (h : i < k.length) : K k i = k[i] := by simp [K, List.getD_eq_getElem?_getD, List.getElem?_eq_getElem h]

/-- The epochs stand in order. -/
def Mono (l : List Ent) : Prop := ∀ i j, i ≤ j → j < l.length → E l i ≤ E l j

theorem rightGo_mem : ∀ {l : List Ent} {e : Int}, rightGo e l = true → ∀ x ∈ l, 0 ≤ x.1 ∧ x.1 < 16 ∧ e ≤ x.2.2.1
  | [], _, _, x, h => by cases h
  | y :: l, e, h, x, hx => by
    simp only [rightGo, Bool.and_eq_true, decide_eq_true_eq] at h
    rcases List.mem_cons.1 hx with rfl | hx
    · exact ⟨h.1, h.2.1, h.2.2.1⟩
    · have := rightGo_mem h.2.2.2 x hx
      exact ⟨this.1, this.2.1, by omega⟩
theorem rightGo_pair : ∀ {l : List Ent} {e : Int}, rightGo e l = true → l.Pairwise (fun x y => x.2.2.1 ≤ y.2.2.1)
  | [], _, _ => .nil
  | y :: l, e, h => by
    simp only [rightGo, Bool.and_eq_true, decide_eq_true_eq] at h
    exact .cons (fun x hx => (rightGo_mem h.2.2.2 x hx).2.2) (rightGo_pair h.2.2.2)
theorem rightGo_iff : ∀ {l : List Ent} {e : Int}, rightGo e l = true ↔ (∀ x ∈ l, 0 ≤ x.1 ∧ x.1 < 16 ∧ e ≤ x.2.2.1) ∧ l.Pairwise (fun x y => x.2.2.1 ≤ y.2.2.1)
  | [], e => by simp [rightGo]
  | y :: l, e => by
    simp only [rightGo, Bool.and_eq_true, decide_eq_true_eq, rightGo_iff (l := l) (e := y.2.2.1), List.mem_cons, List.pairwise_cons]
    constructor
    · rintro ⟨a, b, c, d, f⟩
      refine ⟨?_, fun x hx => (d x hx).2.2, f⟩
      rintro x (rfl | hx)
      · exact ⟨a, b, c⟩
      · have := d x hx; exact ⟨this.1, this.2.1, by omega⟩
    · rintro ⟨a, b, c⟩
      have h := a y (.inl rfl)
      exact ⟨h.1, h.2.1, h.2.2, fun x hx => ⟨(a x (.inr hx)).1, (a x (.inr hx)).2.1, b x hx⟩, c⟩
theorem mono_of_pair {l : List Ent} (h : l.Pairwise (fun x y => x.2.2.1 ≤ y.2.2.1)) : Mono l := fun i j hij hj => by
  rcases Nat.lt_or_eq_of_le hij with hlt | rfl
  · rw [E_get (by omega), E_get hj]
    exact List.pairwise_iff_getElem.1 h i j (by omega) hj hlt
  · exact Int.le_refl _
theorem right_mono {l : List Ent} (h : rightL l = true) : Mono l := by
  simp only [rightL, Bool.and_eq_true] at h
  exact mono_of_pair (rightGo_pair h.1)
theorem right_len {l : List Ent} (h : rightL l = true) : l.length ≤ 4096 := by
  simp only [rightL, Bool.and_eq_true, decide_eq_true_eq] at h
  exact h.2
theorem right_bl {l : List Ent} (h : rightL l = true) {x : Ent} (hx : x ∈ l) : 0 ≤ x.1 ∧ x.1 < 16 := by
  simp only [rightL, Bool.and_eq_true] at h
  have := rightGo_mem h.1 x hx
  exact ⟨this.1, this.2.1⟩

/-- All that an entry that survives needs does. -/
def Needs (l : List Ent) (k : List Bool) : Prop := ∀ i, i < l.length → K k i = true → ∀ j, j < l.length → E l j < E l i → K k j = true
def vld (l : List Ent) (k : List Bool) : Bool := (List.range l.length).all fun i => !K k i || (List.range l.length).all fun j => decide (E l i ≤ E l j) || K k j
theorem vld_iff {l : List Ent} {k : List Bool} : vld l k = true ↔ Needs l k := by
  unfold vld Needs
  simp only [List.all_eq_true, List.mem_range, Bool.or_eq_true, Bool.not_eq_true', decide_eq_true_eq]
  constructor
  · intro h i hi hk j hj hlt
    rcases h i hi with h | h
    · rw [hk] at h; cases h
    · rcases h j hj with h | h
      · omega
      · exact h
  · intro h i hi
    cases hk : K k i with
    | false => exact .inl rfl
    | true =>
      refine .inr fun j hj => ?_
      by_cases hlt : E l i ≤ E l j
      · exact .inl hlt
      · exact .inr (h i hi hk j hj (by omega))

/-! ### sets as numbers -/

def allB : Nat → List (List Bool)
  | 0 => [[]]
  | n + 1 => (allB n).map (false :: ·) ++ (allB n).map (true :: ·)
theorem mem_allB : ∀ {n : Nat} {k : List Bool}, k ∈ allB n ↔ k.length = n
  | 0, k => by simp [allB]
  | n + 1, [] => by simp [allB]
  | n + 1, b :: k => by
    cases b <;> simp [allB, mem_allB (n := n) (k := k)]

def ltB : List Bool → List Bool → Bool
  | a :: x, b :: y => if a = b then ltB x y else b
  | _, _ => false

theorem allB_sorted : ∀ n, (allB n).Pairwise (fun a b => ltB a b = true)
  | 0 => by simp [allB]
  | n + 1 => by
    unfold allB
    refine List.pairwise_append.2 ⟨?_, ?_, ?_⟩
    · exact List.pairwise_map.2 ((allB_sorted n).imp fun {a b} h => by simpa [ltB] using h)
    · exact List.pairwise_map.2 ((allB_sorted n).imp fun {a b} h => by simpa [ltB] using h)
    · intro a ha b hb
      obtain ⟨x, _, rfl⟩ := List.mem_map.1 ha
      obtain ⟨y, _, rfl⟩ := List.mem_map.1 hb
      simp [ltB]

/-- Where two of them part first. -/
theorem ltB_iff : ∀ {a b : List Bool}, a.length = b.length → (ltB a b = true ↔ ∃ i, i < a.length ∧ a.take i = b.take i ∧ K a i = false ∧ K b i = true)
  | [], [], _ => by simp [ltB]
  | x :: a, y :: b, h => by
    have h' : a.length = b.length := by simpa using h
    unfold ltB
    by_cases e : x = y
    · subst e
      rw [if_pos rfl, ltB_iff h']
      constructor
      · rintro ⟨i, hi, ht, ha, hb⟩
        exact ⟨i + 1, by simpa using hi, by simp [ht], ha, hb⟩
      · rintro ⟨i, hi, ht, ha, hb⟩
        cases i with
        | zero => simp [K] at ha hb; rw [ha] at hb; cases hb
        | succ i => exact ⟨i, by simpa using hi, by simpa using ht, ha, hb⟩
    · rw [if_neg e]
      constructor
      · rintro rfl
        refine ⟨0, by simp, by simp, ?_, rfl⟩
        show x = false
        cases x with
        | false => rfl
        | true => exact absurd rfl e
      · rintro ⟨i, hi, ht, ha, hb⟩
        cases i with
        | zero => exact hb
        | succ i => simp at ht; exact absurd ht.1 e
  | [], _ :: _, h => by simp at h
  | _ :: _, [], h => by simp at h

theorem ltB_irrefl : ∀ a : List Bool, ltB a a = false
  | [] => rfl
  | x :: a => by unfold ltB; rw [if_pos rfl]; exact ltB_irrefl a
theorem ltB_trans : ∀ {a b c : List Bool}, ltB a b = true → ltB b c = true → ltB a c = true
  | x :: a, y :: b, z :: c, h, k => by
    unfold ltB at h k ⊢
    by_cases e : x = y
    · subst e
      rw [if_pos rfl] at h
      by_cases e2 : x = z
      · rw [if_pos e2] at k ⊢; exact ltB_trans h k
      · rw [if_neg e2] at k ⊢; exact k
    · rw [if_neg e] at h
      subst h
      by_cases e2 : (true : Bool) = z
      · subst e2; rw [if_neg e]
      · rw [if_neg e2] at k; exact absurd k.symm e2
  | [], _, _, h, _ => by simp [ltB] at h
  | _ :: _, [], _, h, _ => by simp [ltB] at h
  | _ :: _, _ :: _, [], _, k => by simp [ltB] at k
theorem ltB_asymm {a b : List Bool} (h : ltB a b = true) : ltB b a = false := by
  cases k : ltB b a with
  | false => rfl
  | true => have := ltB_trans h k; rw [ltB_irrefl] at this; cases this
theorem ltB_total : ∀ {a b : List Bool}, a.length = b.length → ltB a b = true ∨ a = b ∨ ltB b a = true
  | [], [], _ => .inr (.inl rfl)
  | x :: a, y :: b, h => by
    have h' : a.length = b.length := by simpa using h
    unfold ltB
    by_cases e : x = y
    · subst e
      simp only [if_true]
      rcases ltB_total h' with k | k | k
      · exact .inl k
      · exact .inr (.inl (by rw [k]))
      · exact .inr (.inr k)
    · rw [if_neg e, if_neg (fun h => e h.symm)]
      cases x <;> cases y <;> simp at e ⊢
  | [], _ :: _, h => by simp at h
  | _ :: _, [], h => by simp at h

/-! ### the valid sets, in order -/

def valids (l : List Ent) : List (List Bool) := (allB l.length).filter (vld l)
theorem mem_valids {l : List Ent} {k : List Bool} : k ∈ valids l ↔ k.length = l.length ∧ vld l k = true := by unfold valids; rw [List.mem_filter, mem_allB]
theorem valids_sorted (l : List Ent) : (valids l).Pairwise (fun a b => ltB a b = true) := (allB_sorted _).filter _

/-- May the entry i be the first one that is added? -/
def okAt (l : List Ent) (k : List Bool) (i : Nat) : Bool := !K k i && (List.range i).all fun j => decide (E l i ≤ E l j) || K k j
def cnd (l : List Ent) (k : List Bool) (i : Nat) : List Bool := k.take i ++ true :: List.replicate (l.length - i - 1) false

theorem okAt_iff {l : List Ent} {k : List Bool} {i : Nat} : okAt l k i = true ↔ K k i = false ∧ ∀ j, j < i → E l j < E l i → K k j = true := by
  unfold okAt
  simp only [Bool.and_eq_true, Bool.not_eq_true', List.all_eq_true, List.mem_range, Bool.or_eq_true, decide_eq_true_eq]
  refine and_congr Iff.rfl ⟨fun h j hj hlt => (h j hj).elim (fun h => by omega) id, fun h j hj => ?_⟩
  by_cases hlt : E l i ≤ E l j
  · exact .inl hlt
  · exact .inr (h j hj (by omega))

theorem cnd_len {l : List Ent} {k : List Bool} {i : Nat} (hk : k.length = l.length) (hi : i < l.length) : (cnd l k i).length = l.length := by
  simp [cnd]; omega
theorem cnd_lo {l : List Ent} {k : List Bool} {i j : Nat} (hk : k.length = l.length) (hi : i < l.length) (hj : j < i) : K (cnd l k i) j = K k j := by
  unfold K cnd
  rw [List.getD_eq_getElem?_getD, List.getD_eq_getElem?_getD, List.getElem?_append_left (by simp; omega), List.getElem?_take_of_lt hj]
theorem cnd_at {l : List Ent} {k : List Bool} {i : Nat} (hk : k.length = l.length) (hi : i < l.length) : K (cnd l k i) i = true := by
  unfold K cnd
  rw [List.getD_eq_getElem?_getD, List.getElem?_append_right (by simp; omega)]
  simp [show min i k.length = i by omega]
theorem cnd_hi {l : List Ent} {k : List Bool} {i j : Nat} (hk : k.length = l.length) (hi : i < l.length) (hj : i < j) : K (cnd l k i) j = false := by
  unfold K cnd
  rw [List.getD_eq_getElem?_getD, List.getElem?_append_right (by simp; omega), List.length_take, show min i k.length = i by omega]
  obtain ⟨m, hm⟩ : ∃ m, j - i = m + 1 := ⟨j - i - 1, by omega⟩
  rw [hm, List.getElem?_cons_succ, List.getElem?_replicate]
  split <;> rfl
theorem cnd_take {l : List Ent} {k : List Bool} {i : Nat} (hk : k.length = l.length) (hi : i < l.length) : (cnd l k i).take i = k.take i := by
  unfold cnd; rw [List.take_append_of_le_length (by simp; omega), List.take_take, Nat.min_self]

theorem ok_valid {l : List Ent} {k : List Bool} {i : Nat} (hm : Mono l) (hk : k.length = l.length) (hi : i < l.length) (hv : Needs l k) (ho : okAt l k i = true) : Needs l (cnd l k i) := by
  obtain ⟨h0, h1⟩ := okAt_iff.1 ho
  intro a ha hka b hb hlt
  have hba : b < a := by
    rcases Nat.lt_or_ge b a with h | h
    · exact h
    · have := hm a b h hb; omega
  rcases Nat.lt_trichotomy a i with h | h | h
  · rw [cnd_lo hk hi h] at hka
    rw [cnd_lo hk hi (by omega)]
    exact hv a ha hka b hb hlt
  · subst h
    rw [cnd_lo hk hi hba]; exact h1 b hba hlt
  · rw [cnd_hi hk hi h] at hka; cases hka
theorem ok_lt {l : List Ent} {k : List Bool} {i : Nat} (hk : k.length = l.length) (hi : i < l.length) (ho : okAt l k i = true) : ltB k (cnd l k i) = true :=
  (ltB_iff (by rw [cnd_len hk hi, hk])).2 ⟨i, by omega, (cnd_take hk hi).symm, (okAt_iff.1 ho).1, cnd_at hk hi⟩
/-- The least list with such a beginning. -/
theorem cnd_least {l : List Ent} {k k2 : List Bool} {i : Nat} (hk : k.length = l.length) (hk2 : k2.length = l.length) (hi : i < l.length) (ht : k.take i = k2.take i) (h2 : K k2 i = true) : cnd l k i = k2 ∨ ltB (cnd l k i) k2 = true := by
  rcases ltB_total (a := cnd l k i) (b := k2) (by rw [cnd_len hk hi, hk2]) with h | h | h
  · exact .inr h
  · exact .inl h
  · exfalso
    obtain ⟨j, hj, t, a, b⟩ := (ltB_iff (by rw [cnd_len hk hi, hk2])).1 h
    rcases Nat.lt_trichotomy j i with q | q | q
    · rw [cnd_lo hk hi q] at b
      have e1 : K k j = K k2 j := by
        have := congrArg (fun x => K x j) ht
        unfold K at this ⊢
        simp only [List.getD_eq_getElem?_getD, List.getElem?_take_of_lt q] at this ⊢
        exact this
      rw [e1, a] at b; cases b
    · subst q; rw [h2] at a; cases a
    · rw [cnd_hi hk hi q] at b; cases b
theorem ok_above {l : List Ent} {k k2 : List Bool} (hm : Mono l) (hk : k.length = l.length) (hk2 : k2.length = l.length) (hv2 : Needs l k2) (hlt : ltB k k2 = true) :
    ∃ i, i < l.length ∧ okAt l k i = true ∧ (cnd l k i = k2 ∨ ltB (cnd l k i) k2 = true) := by
  obtain ⟨i, hi, ht, h0, h1⟩ := (ltB_iff (by rw [hk, hk2])).1 hlt
  rw [hk] at hi
  refine ⟨i, hi, okAt_iff.2 ⟨h0, fun j hj he => ?_⟩, cnd_least hk hk2 hi ht h1⟩
  have e1 : K k j = K k2 j := by
    have := congrArg (fun x => K x j) ht
    unfold K at this ⊢
    simp only [List.getD_eq_getElem?_getD, List.getElem?_take_of_lt hj] at this ⊢
    exact this
  rw [e1]; exact hv2 i hi h1 j (by omega) he
theorem cnd_anti {l : List Ent} {k : List Bool} {i j : Nat} (hk : k.length = l.length) (hij : i < j) (hj : j < l.length) (ho : K k i = false) : ltB (cnd l k j) (cnd l k i) = true := by
  refine (ltB_iff (by rw [cnd_len hk hj, cnd_len hk (by omega)])).2 ⟨i, by rw [cnd_len hk hj]; omega, ?_, ?_, cnd_at hk (by omega)⟩
  · rw [cnd_take hk (by omega)]
    unfold cnd
    rw [List.take_append_of_le_length (by simp; omega), List.take_take, Nat.min_eq_left (by omega)]
  · rw [cnd_lo hk hj hij]; exact ho

/-- The greatest index that may. -/
def nextI (l : List Ent) (k : List Bool) : Nat → Option Nat
  | 0 => none
  | n + 1 => if okAt l k n then some n else nextI l k n
theorem nextI_some {l : List Ent} {k : List Bool} : ∀ {n i : Nat}, nextI l k n = some i → i < n ∧ okAt l k i = true ∧ ∀ j, i < j → j < n → okAt l k j = false
  | 0, i, h => by cases h
  | n + 1, i, h => by
    unfold nextI at h
    split at h
    · rename_i ho; cases h; exact ⟨by omega, ho, fun j h1 h2 => by omega⟩
    · rename_i ho
      obtain ⟨a, b, c⟩ := nextI_some h
      refine ⟨by omega, b, fun j h1 h2 => ?_⟩
      rcases Nat.lt_or_ge j n with h | h
      · exact c j h1 h
      · have : j = n := by omega
        subst this; simpa using ho
theorem nextI_none {l : List Ent} {k : List Bool} : ∀ {n : Nat}, nextI l k n = none → ∀ j, j < n → okAt l k j = false
  | 0, _, j, h => by omega
  | n + 1, h, j, hj => by
    unfold nextI at h
    split at h
    · cases h
    · rename_i ho
      rcases Nat.lt_or_ge j n with h' | h'
      · exact nextI_none h j h'
      · have : j = n := by omega
        subst this; simpa using ho

/-- What comes behind a valid set in the list of all. -/
theorem next_split {l : List Ent} (hm : Mono l) {pre post : List (List Bool)} {k : List Bool} (h : valids l = pre ++ k :: post) : (nextI l k l.length).map (cnd l k) = post.head? := by
  have hin : k ∈ valids l := by rw [h]; simp
  obtain ⟨hk, hv⟩ := mem_valids.1 hin
  have hv := vld_iff.1 hv
  have hs := valids_sorted l
  rw [h, List.pairwise_append] at hs
  obtain ⟨_, hs2, hs3⟩ := hs
  obtain ⟨hkp, hs2⟩ := List.pairwise_cons.1 hs2
  -- a valid set above k stands behind it
  have above : ∀ k2, k2.length = l.length → Needs l k2 → ltB k k2 = true → k2 ∈ post := by
    intro k2 h1 h2 h3
    have : k2 ∈ valids l := mem_valids.2 ⟨h1, vld_iff.2 h2⟩
    rw [h] at this
    rcases List.mem_append.1 this with q | q
    · have := hs3 k2 q k (by simp)
      rw [ltB_asymm h3] at this; cases this
    · rcases List.mem_cons.1 q with q | q
      · subst q; rw [ltB_irrefl] at h3; cases h3
      · exact q
  cases hn : nextI l k l.length with
  | none =>
    cases post with
    | nil => rfl
    | cons c post =>
      exfalso
      have hc : c ∈ valids l := by rw [h]; simp
      obtain ⟨h1, h2⟩ := mem_valids.1 hc
      obtain ⟨i, hi, ho, _⟩ := ok_above hm hk h1 (vld_iff.1 h2) (hkp c (by simp))
      rw [nextI_none hn i hi] at ho; cases ho
  | some m =>
    obtain ⟨hml, hmo, hmax⟩ := nextI_some hn
    have hb : cnd l k m ∈ post := above _ (cnd_len hk hml) (ok_valid hm hk hml hv hmo) (ok_lt hk hml hmo)
    cases post with
    | nil => cases hb
    | cons c post =>
      simp only [Option.map_some, List.head?_cons, Option.some.injEq]
      have hc : c ∈ valids l := by rw [h]; simp
      obtain ⟨h1, h2⟩ := mem_valids.1 hc
      obtain ⟨i, hi, ho, hle⟩ := ok_above hm hk h1 (vld_iff.1 h2) (hkp c (by simp))
      have him : i ≤ m := by
        rcases Nat.lt_or_ge m i with q | q
        · rw [hmax i q hi] at ho; cases ho
        · exact q
      have hle2 : cnd l k m = c ∨ ltB (cnd l k m) c = true := by
        rcases Nat.lt_or_eq_of_le him with q | rfl
        · have h3 := cnd_anti hk q hml (okAt_iff.1 ho).1
          rcases hle with e | e
          · rw [e] at h3; exact .inr h3
          · exact .inr (ltB_trans h3 e)
        · exact hle
      rcases hle2 with e | e
      · exact e
      · rcases List.mem_cons.1 hb with q | q
        · exact q
        · have := (List.pairwise_cons.1 hs2).1 _ q
          rw [ltB_asymm this] at e; cases e

/-- None is the first one. -/
theorem none_valid (l : List Ent) : Needs l (List.replicate l.length false) := fun i hi hk => by
  unfold K at hk; rw [List.getD_eq_getElem?_getD, List.getElem?_replicate] at hk; split at hk <;> cases hk
theorem valids_head (l : List Ent) : (valids l).head? = some (List.replicate l.length false) := by
  have hin : List.replicate l.length false ∈ valids l := mem_valids.2 ⟨by simp, vld_iff.2 (none_valid l)⟩
  have hs := valids_sorted l
  cases hv : valids l with
  | nil => rw [hv] at hin; cases hin
  | cons c r =>
    rw [hv] at hin hs
    rcases List.mem_cons.1 hin with q | q
    · rw [q]; rfl
    · exfalso
      have h1 := (List.pairwise_cons.1 hs).1 _ q
      have hl : c.length = l.length := (mem_valids.1 (by rw [hv]; simp : c ∈ valids l)).1
      obtain ⟨i, hi, _, _, hk⟩ := (ltB_iff (by simp [hl])).1 h1
      unfold K at hk; rw [List.getD_eq_getElem?_getD, List.getElem?_replicate] at hk; split at hk <;> cases hk
theorem all_valid (l : List Ent) : Needs l (List.replicate l.length true) := fun i hi hk j hj hlt => by
  unfold K; rw [List.getD_eq_getElem?_getD, List.getElem?_replicate, if_pos hj]; rfl

end Go.Cr

/-
  How many valid sets there are; sets as numbers; in plain Lean.
-/
set_option linter.unusedVariables false
namespace Go.Cr

/-! ### how many -/

theorem allB_add : ∀ (m n : Nat), allB (m + n) = (allB m).flatMap fun a => (allB n).map (a ++ ·)
  | 0, n => by simp [allB]
  | m + 1, n => by
    have e : ∀ n, allB (n + 1) = (allB n).map (false :: ·) ++ (allB n).map (true :: ·) := fun _ => rfl
    rw [Nat.succ_add, e, e, allB_add m n, List.flatMap_append, List.map_flatMap, List.map_flatMap, List.flatMap_map, List.flatMap_map]
    simp only [List.map_map]
    rfl

/-- The first group, and what is behind it. -/
def grp (l : List Ent) : Nat := match l with | [] => 0 | x :: r => ((x :: r).takeWhile fun y => y.2.2.1 == x.2.2.1).length

theorem grp_spec {x : Ent} {r : List Ent} : (∀ y ∈ (x :: r).take (grp (x :: r)), y.2.2.1 = x.2.2.1) ∧ 0 < grp (x :: r) ∧ grp (x :: r) ≤ (x :: r).length ∧
    ∀ y, ((x :: r).drop (grp (x :: r))).head? = some y → y.2.2.1 ≠ x.2.2.1 := by
  have key : ∀ (l : List Ent) (p : Ent → Bool), (∀ y ∈ l.take (l.takeWhile p).length, p y = true) ∧ (l.takeWhile p).length ≤ l.length ∧ ∀ y, (l.drop (l.takeWhile p).length).head? = some y → p y = false := by
    intro l p
    induction l with
    | nil => simp
    | cons a l ih =>
      by_cases h : p a = true
      · rw [List.takeWhile_cons_of_pos h]
        refine ⟨?_, by simpa using ih.2.1, ?_⟩
        · intro y hy
          simp only [List.length_cons, List.take_succ_cons, List.mem_cons] at hy
          rcases hy with rfl | hy
          · exact h
          · exact ih.1 y hy
        · simpa using ih.2.2
      · rw [List.takeWhile_cons_of_neg h]
        refine ⟨by simp, by simp, ?_⟩
        intro y hy
        simp only [List.length_nil, List.drop_zero, List.head?_cons, Option.some.injEq] at hy
        subst hy; simpa using h
  obtain ⟨a, b, c⟩ := key (x :: r) fun y => y.2.2.1 == x.2.2.1
  refine ⟨fun y hy => by simpa using a y hy, ?_, b, fun y hy => by simpa using c y hy⟩
  show 0 < ((x :: r).takeWhile fun y => y.2.2.1 == x.2.2.1).length
  rw [List.takeWhile_cons_of_pos (by simp)]; simp

theorem K_app_lo {a b : List Bool} {i : Nat} (h : i < a.length) : K (a ++ b) i = K a i := by unfold K; rw [List.getD_eq_getElem?_getD, List.getD_eq_getElem?_getD, List.getElem?_append_left h]
theorem K_app_hi {a b : List Bool} {i : Nat} : K (a ++ b) (a.length + i) = K b i := by unfold K; rw [List.getD_eq_getElem?_getD, List.getD_eq_getElem?_getD, List.getElem?_append_right (by omega)]; rw [Nat.add_sub_cancel_left]
theorem E_app_lo {a b : List Ent} {i : Nat} (h : i < a.length) : E (a ++ b) i = E a i := by unfold E; rw [List.getD_eq_getElem?_getD, List.getD_eq_getElem?_getD, List.getElem?_append_left h]
theorem E_app_hi {a b : List Ent} {i : Nat} : E (a ++ b) (a.length + i) = E b i := by unfold E; rw [List.getD_eq_getElem?_getD, List.getD_eq_getElem?_getD, List.getElem?_append_right (by omega)]; rw [Nat.add_sub_cancel_left]

/-- A cache in two parts with a barrier between them. -/
theorem vld_app {a b : List Ent} {k m : List Bool} (hk : k.length = a.length) (hm : m.length = b.length) (hb : ∀ i j, i < a.length → j < b.length → E a i < E b j) :
    Needs (a ++ b) (k ++ m) ↔ Needs a k ∧ Needs b m ∧ ((∃ j, j < b.length ∧ K m j = true) → ∀ i, i < a.length → K k i = true) := by
  unfold Needs
  constructor
  · intro h
    refine ⟨fun i hi hki j hj hlt => ?_, fun i hi hki j hj hlt => ?_, fun ⟨j, hj, hmj⟩ i hi => ?_⟩
    · have := h i (by simp; omega) (by rw [K_app_lo (by omega)]; exact hki) j (by simp; omega) (by rw [E_app_lo hi, E_app_lo hj]; exact hlt)
      rwa [K_app_lo (by omega)] at this
    · have := h (a.length + i) (by simp; omega) (by rw [← hk, K_app_hi]; exact hki) (a.length + j) (by simp; omega) (by rw [E_app_hi, E_app_hi]; exact hlt)
      rwa [← hk, K_app_hi] at this
    · have := h (a.length + j) (by simp; omega) (by rw [← hk, K_app_hi]; exact hmj) i (by simp; omega) (by rw [E_app_hi, E_app_lo hi]; exact hb i j hi hj)
      rwa [K_app_lo (by omega)] at this
  · rintro ⟨h1, h2, h3⟩ i hi hki j hj hlt
    simp only [List.length_append] at hi hj
    rcases Nat.lt_or_ge i a.length with q | q
    · rw [K_app_lo (by omega)] at hki
      rw [E_app_lo q] at hlt
      rcases Nat.lt_or_ge j a.length with q2 | q2
      · rw [E_app_lo q2] at hlt
        rw [K_app_lo (by omega)]; exact h1 i q hki j q2 hlt
      · obtain ⟨j', rfl⟩ := Nat.exists_eq_add_of_le q2
        rw [E_app_hi] at hlt
        have := hb i j' q (by omega); omega
    · obtain ⟨i', rfl⟩ := Nat.exists_eq_add_of_le q
      rw [← hk, K_app_hi] at hki
      rw [E_app_hi] at hlt
      rcases Nat.lt_or_ge j a.length with q2 | q2
      · rw [K_app_lo (by omega)]; exact h3 ⟨i', by omega, hki⟩ j q2
      · obtain ⟨j', rfl⟩ := Nat.exists_eq_add_of_le q2
        rw [E_app_hi] at hlt
        rw [← hk, K_app_hi]; exact h2 i' (by omega) hki j' (by omega) hlt

theorem none_iff {m : List Bool} : (∃ j, j < m.length ∧ K m j = true) ↔ m ≠ List.replicate m.length false := by
  constructor
  · rintro ⟨j, hj, h⟩ e
    rw [e] at h
    unfold K at h; rw [List.getD_eq_getElem?_getD, List.getElem?_replicate] at h; split at h <;> cases h
  · intro h
    apply Classical.byContradiction
    intro hn
    apply h
    apply List.ext_getElem
    · simp
    · intro i h1 h2
      simp only [List.getElem_replicate]
      cases hc : m[i] with
      | false => rfl
      | true => exact absurd ⟨i, h1, by rw [K_get h1]; exact hc⟩ hn
theorem all_iff {m : List Bool} : (∀ i, i < m.length → K m i = true) ↔ m = List.replicate m.length true := by
  constructor
  · intro h
    apply List.ext_getElem
    · simp
    · intro i h1 h2
      rw [List.getElem_replicate, ← K_get h1]; exact h i h1
  · intro e i hi
    rw [e]; unfold K; rw [List.getD_eq_getElem?_getD, List.getElem?_replicate, if_pos hi]; rfl

theorem flat_len_sum {α β : Type} {f : α → List β} : ∀ {l : List α}, (l.flatMap f).length = (l.map fun x => (f x).length).sum
  | [] => rfl
  | x :: l => by simp [flat_len_sum (l := l)]

theorem allB_len : ∀ n, (allB n).length = 2 ^ n
  | 0 => rfl
  | n + 1 => by unfold allB; simp [allB_len n, Nat.pow_succ]; omega

theorem filter_const_false {α : Type} {l : List α} {p : α → Bool} (h : ∀ x ∈ l, p x = false) : (l.filter p).length = 0 := by
  rw [List.filter_eq_nil_iff.2 (fun x hx => by simp [h x hx])]; rfl

/-- Of a part by itself. -/
theorem count_app {a b : List Ent} (hb : ∀ i j, i < a.length → j < b.length → E a i < E b j) : (valids (a ++ b)).length + 1 = (valids a).length + (valids b).length := by
  unfold valids
  rw [List.length_append, allB_add, List.filter_flatMap, flat_len_sum]
  simp only [List.filter_map, List.length_map]
  -- of a beginning k: all endings, if it is full, else one, if it is valid
  have each : ∀ k ∈ allB a.length, ((allB b.length).filter (vld (a ++ b) ∘ fun x => k ++ x)).length =
      if k = List.replicate a.length true then ((allB b.length).filter (vld b)).length else if vld a k = true then 1 else 0 := by
    intro k hk
    have hk := mem_allB.1 hk
    by_cases hf : k = List.replicate a.length true
    · rw [if_pos hf]
      congr 1
      refine List.filter_congr fun m hm => ?_
      have hm := mem_allB.1 hm
      have e : vld (a ++ b) (k ++ m) = true ↔ vld b m = true := by
        rw [vld_iff, vld_iff, vld_app hk hm hb]
        constructor
        · exact fun h => h.2.1
        · exact fun h => ⟨hf ▸ all_valid a, h, fun _ => by rw [← hk]; exact all_iff.2 (by rw [hk]; exact hf)⟩
      simp only [Function.comp]
      cases h1 : vld (a ++ b) (k ++ m) <;> cases h2 : vld b m <;> simp_all
    · rw [if_neg hf]
      have hnf : ¬ ∀ i, i < a.length → K k i = true := fun h => hf (by rw [← hk]; exact all_iff.1 (by rw [hk]; exact h))
      have e : ∀ m ∈ allB b.length, (vld (a ++ b) ∘ fun x => k ++ x) m = (vld a k && decide (m = List.replicate b.length false)) := by
        intro m hm
        have hm := mem_allB.1 hm
        simp only [Function.comp]
        have e : vld (a ++ b) (k ++ m) = true ↔ vld a k = true ∧ m = List.replicate b.length false := by
          rw [vld_iff, vld_iff, vld_app hk hm hb]
          constructor
          · rintro ⟨h1, h2, h3⟩
            refine ⟨h1, Classical.byContradiction fun hn => hnf (h3 ?_)⟩
            have := (none_iff (m := m)).2 (by rw [hm]; exact hn)
            rwa [hm] at this
          · rintro ⟨h1, h2⟩
            refine ⟨h1, h2 ▸ none_valid b, fun ⟨j, hj, hmj⟩ => absurd h2 ?_⟩
            have := (none_iff (m := m)).1 ⟨j, by omega, hmj⟩
            rwa [hm] at this
        cases h1 : vld (a ++ b) (k ++ m) <;> cases h2 : vld a k <;> by_cases h3 : m = List.replicate b.length false <;> simp_all
      rw [List.filter_congr e]
      by_cases hv : vld a k = true
      · rw [if_pos hv]
        simp only [hv, Bool.true_and]
        have nd : (allB b.length).Nodup := (allB_sorted _).imp fun {x y} h e => by subst e; rw [ltB_irrefl] at h; cases h
        have hin : List.replicate b.length false ∈ allB b.length := mem_allB.2 (by simp)
        have : ((allB b.length).filter fun m => decide (m = List.replicate b.length false)).length = (allB b.length).count (List.replicate b.length false) := by
          rw [List.count_eq_countP, List.countP_eq_length_filter]; congr 1; exact List.filter_congr fun x _ => (Bool.beq_eq_decide_eq x _).symm
        rw [this]
        exact List.Nodup.count nd ▸ (by simp [hin])
      · rw [if_neg hv]
        exact filter_const_false fun m hm => by simp [hv]
  rw [List.map_congr_left each]
  -- the full one is one of the valid ones
  have hfull : List.replicate a.length true ∈ allB a.length := mem_allB.2 (by simp)
  have hvf : vld a (List.replicate a.length true) = true := vld_iff.2 (all_valid a)
  have nd : (allB a.length).Nodup := (allB_sorted _).imp fun {x y} h e => by subst e; rw [ltB_irrefl] at h; cases h
  generalize ((allB b.length).filter (vld b)).length = c
  generalize List.replicate a.length true = f at hfull hvf
  have key : ∀ L : List (List Bool), L.Nodup → (L.map fun k => if k = f then c else if vld a k = true then 1 else 0).sum + (if f ∈ L then 1 else 0) = (L.filter (vld a)).length + (if f ∈ L then c else 0) := by
    intro L
    induction L with
    | nil => intro _; simp
    | cons k L ih =>
      intro hn
      obtain ⟨hkn, hn⟩ := List.nodup_cons.1 hn
      have := ih hn
      simp only [List.map_cons, List.sum_cons, List.mem_cons]
      by_cases e : k = f
      · subst e
        have hnot : ¬ k ∈ L := hkn
        simp only [if_true, true_or, if_neg hnot] at this ⊢
        rw [List.filter_cons_of_pos hvf, List.length_cons]
        omega
      · have e' : ¬ f = k := fun h => e h.symm
        simp only [if_neg e, e', false_or]
        by_cases hv : vld a k = true
        · rw [if_pos hv, List.filter_cons_of_pos hv, List.length_cons]; omega
        · rw [if_neg hv, List.filter_cons_of_neg hv]; omega
  have := key _ nd
  rw [if_pos hfull, if_pos hfull] at this
  omega

/-- Of one epoch, all sets are valid. -/
theorem count_one {a : List Ent} {e : Int} (h : ∀ y ∈ a, y.2.2.1 = e) : (valids a).length = 2 ^ a.length := by
  unfold valids
  rw [List.filter_eq_self.2, allB_len]
  intro k _
  refine vld_iff.2 fun i hi _ j hj hlt => ?_
  rw [E_get hi, E_get hj, h _ (List.getElem_mem hi), h _ (List.getElem_mem hj)] at hlt
  omega

theorem count_grp {x : Ent} {r : List Ent} (hm : Mono (x :: r)) : (valids (x :: r)).length + 1 = 2 ^ grp (x :: r) + (valids ((x :: r).drop (grp (x :: r)))).length := by
  obtain ⟨h1, h2, h3, h4⟩ := grp_spec (x := x) (r := r)
  generalize hl : x :: r = l at *
  have hs : l = l.take (grp l) ++ l.drop (grp l) := (List.take_append_drop _ _).symm
  have hlen : (l.take (grp l)).length = grp l := by simp; omega
  have hx0 : E l 0 = x.2.2.1 := by rw [← hl]; rfl
  have := count_app (a := l.take (grp l)) (b := l.drop (grp l)) fun i j hi hj => by
    have hj' : j < l.length - grp l := by simpa using hj
    have e1 : E (l.take (grp l)) i = x.2.2.1 := by rw [E_get hi]; exact h1 _ (List.getElem_mem hi)
    have e2 : E (l.drop (grp l)) j = E l (grp l + j) := by
      rw [E_get hj, E_get (by omega), List.getElem_drop]
    have e3 : E l (grp l) ≠ x.2.2.1 := by
      have hg : grp l < l.length := by omega
      rw [E_get hg]
      exact h4 l[grp l] (by rw [List.head?_drop, List.getElem?_eq_getElem hg])
    have e4 := hm 0 (grp l) (by omega) (by omega)
    have e5 := hm (grp l) (grp l + j) (by omega) (by omega)
    omega
  rw [← hs, count_one h1, hlen] at this
  exact this

/-- The count, with its limit. -/
def cntP (l : List Ent) : Int := ((min (valids l).length (2 ^ 30) : Nat) : Int)

theorem valids_pos (l : List Ent) : 1 ≤ (valids l).length := by
  have := valids_head l
  cases h : valids l with
  | nil => rw [h] at this; cases this
  | cons => simp
theorem valids_le (l : List Ent) : (valids l).length ≤ 2 ^ l.length := by
  unfold valids
  exact Nat.le_trans (List.length_filter_le _ _) (by rw [allB_len]; exact Nat.le_refl _)

/-! ### sets as numbers -/

def numB (k : List Bool) : Nat := k.foldl (fun x b => 2 * x + (if b then 1 else 0)) 0
theorem foldl_num : ∀ (k : List Bool) (x : Nat), k.foldl (fun x b => 2 * x + (if b then 1 else 0)) x = x * 2 ^ k.length + numB k
  | [], x => by simp [numB]
  | b :: k, x => by
    unfold numB
    rw [List.foldl_cons, List.foldl_cons, foldl_num k, foldl_num k (2 * 0 + _), List.length_cons, Nat.pow_succ]
    simp only [Nat.mul_zero, Nat.zero_add, Nat.add_mul]
    have : 2 * x * 2 ^ k.length = x * (2 ^ k.length * 2) := by rw [Nat.mul_comm 2 x, Nat.mul_assoc, Nat.mul_comm 2]
    omega
theorem numB_cons (b : Bool) (k : List Bool) : numB (b :: k) = (if b then 2 ^ k.length else 0) + numB k := by
  show (b :: k).foldl _ 0 = _
  rw [List.foldl_cons, foldl_num]
  cases b <;> simp
theorem numB_snoc (k : List Bool) (b : Bool) : numB (k ++ [b]) = 2 * numB k + (if b then 1 else 0) := by unfold numB; rw [List.foldl_append]; rfl
theorem numB_lt : ∀ k : List Bool, numB k < 2 ^ k.length
  | [] => by decide
  | b :: k => by
    rw [numB_cons, List.length_cons, Nat.pow_succ]
    have := numB_lt k
    split <;> omega
theorem ltB_num : ∀ {a b : List Bool}, a.length = b.length → (ltB a b = true ↔ numB a < numB b)
  | [], [], _ => by simp [ltB]
  | x :: a, y :: b, h => by
    have h' : a.length = b.length := by simpa using h
    have := ltB_num h'
    have h1 := numB_lt a
    have h2 := numB_lt b
    rw [numB_cons, numB_cons, h'] at *
    unfold ltB
    cases x <;> cases y <;> simp [this] <;> omega
  | [], _ :: _, h => by simp at h
  | _ :: _, [], h => by simp at h
theorem numB_false : ∀ n, numB (List.replicate n false) = 0
  | 0 => rfl
  | n + 1 => by rw [List.replicate_succ, numB_cons, numB_false n]; rfl
theorem numB_true : ∀ n, numB (List.replicate n true) + 1 = 2 ^ n
  | 0 => rfl
  | n + 1 => by
    have := numB_true n
    rw [List.replicate_succ, numB_cons, List.length_replicate, Nat.pow_succ, if_pos rfl]; omega

/-- The digits of a number. -/
def bitsB (n x : Nat) : List Bool := (List.range n).map fun i => decide (x / 2 ^ (n - 1 - i) % 2 = 1)
theorem bitsB_succ (n x : Nat) : bitsB (n + 1) x = decide (x / 2 ^ n % 2 = 1) :: bitsB n x := by
  unfold bitsB
  rw [List.range_succ_eq_map, List.map_cons, List.map_map]
  congr 1
  refine List.map_congr_left fun i hi => ?_
  simp only [Function.comp]
  have : n + 1 - 1 - (i + 1) = n - 1 - i := by omega
  rw [this]
theorem bitsB_mod : ∀ (n x y : Nat), bitsB n (x + 2 ^ n * y) = bitsB n x
  | 0, x, y => rfl
  | n + 1, x, y => by
    rw [bitsB_succ, bitsB_succ]
    have e1 : x + 2 ^ (n + 1) * y = x + 2 ^ n * (2 * y) := by rw [Nat.pow_succ, Nat.mul_assoc]
    rw [e1, bitsB_mod n x (2 * y), Nat.add_mul_div_left _ _ (Nat.two_pow_pos n), Nat.add_mul_mod_self_left]
theorem allB_bits : ∀ n, allB n = (List.range (2 ^ n)).map (bitsB n)
  | 0 => rfl
  | n + 1 => by
    unfold allB
    rw [allB_bits n, Nat.pow_succ, Nat.mul_two, List.range_add, List.map_append, List.map_map, List.map_map, List.map_map]
    congr 1
    · refine List.map_congr_left fun x hx => ?_
      have hx := List.mem_range.1 hx
      simp only [Function.comp]
      rw [bitsB_succ, Nat.div_eq_of_lt hx]; rfl
    · refine List.map_congr_left fun x hx => ?_
      have hx := List.mem_range.1 hx
      simp only [Function.comp]
      rw [bitsB_succ]
      have e : 2 ^ n + x = x + 2 ^ n * 1 := by omega
      rw [e, bitsB_mod, Nat.add_mul_div_left _ _ (Nat.two_pow_pos n), Nat.div_eq_of_lt hx]; rfl

end Go.Cr

/-
  What is kept, the results, and what the functions over caches answer, in plain Lean.
-/
set_option linter.unusedVariables false
namespace Go.Cr
open Go.Sx Go.Cl

/-! ### what is kept -/

def applyP : List Int → List Ent → List Bool → List Int
  | m, x :: l, b :: k => applyP (if b then m.set x.1.toNat x.2.1 else m) l k
  | m, _, _ => m
theorem applyP_len : ∀ (l : List Ent) (m : List Int) (k : List Bool), (applyP m l k).length = m.length
  | [], m, k => by simp [applyP]
  | x :: l, m, [] => by simp [applyP]
  | x :: l, m, b :: k => by
    unfold applyP
    rw [applyP_len l]
    split <;> simp
theorem applyP_app : ∀ (l l2 : List Ent) (m : List Int) (k k2 : List Bool), l.length = k.length → applyP m (l ++ l2) (k ++ k2) = applyP (applyP m l k) l2 k2
  | [], l2, m, k, k2, h => by
    have : k = [] := by cases k with | nil => rfl | cons => simp at h
    subst this; simp [applyP]
  | x :: l, l2, m, [], k2, h => by simp at h
  | x :: l, l2, m, b :: k, k2, h => by
    exact applyP_app l l2 (if b then m.set x.1.toNat x.2.1 else m) k k2 (by simpa using h)
theorem applyP_step {l : List Ent} {k : List Bool} {m : List Int} {i : Nat} (hi : i < l.length) (hk : k.length = l.length) :
    applyP m (l.take (i + 1)) (k.take (i + 1)) = if K k i then (applyP m (l.take i) (k.take i)).set l[i].1.toNat l[i].2.1 else applyP m (l.take i) (k.take i) := by
  rw [List.take_succ_eq_append_getElem hi, List.take_succ_eq_append_getElem (show i < k.length by omega), applyP_app _ _ _ _ _ (by simp; omega), K_get (by omega)]
  cases k[i] <;> simp [applyP]

def checkC (l : List Ent) (k : List Bool) : Int := if rightL l then (if k.length = l.length then 0 else 351) else 350
def fitsP (n : Nat) (l : List Ent) : Bool := !l.any fun x => decide (x.1 ≥ (n : Int))
def validP (l : List Ent) (k : List Bool) : Bool × Int := if checkC l k = 0 then (vld l k, 0) else (false, checkC l k)
def applyC (m : List Int) (l : List Ent) (k : List Bool) : List Int × Int := if checkC l k = 0 then (if fitsP m.length l then (applyP m l k, 0) else ([], 2)) else ([], checkC l k)
def dropL (l : List Ent) (k : List Bool) : List (List Bool) := (List.range l.length).filterMap fun i => if K k i && vld l (k.set i false) then some (k.set i false) else none
def dropP (l : List Ent) (k : List Bool) : List (List Bool) × Int := if checkC l k = 0 then (if vld l k then (dropL l k, 0) else ([], 2)) else ([], checkC l k)
def countP (l : List Ent) : Int × Int := if rightL l then (cntP l, 0) else (0, 350)

/-! ### the results -/

abbrev cmpW : List Int → List Int → Int := cmpL cmpI
theorem totW : TotC (fun xs : List Int => ∀ x ∈ xs, True) cmpW := totL totI
def resL (m : List Int) (l : List Ent) : List (List Int) := sortC cmpW ((valids l).map (applyP m l))
def resP (m : List Int) (l : List Ent) : List (List Int) × Int := if rightL l then (if fitsP m.length l then (if cntP l > 4096 then ([], 5) else (resL m l, 0)) else ([], 2)) else ([], 350)

theorem resL_spec (m : List Int) (l : List Ent) : StrictC cmpW (resL m l) ∧ ∀ x, x ∈ resL m l ↔ ∃ k ∈ valids l, applyP m l k = x := by
  obtain ⟨a, b⟩ := sortC_spec totW (L := (valids l).map (applyP m l)) (fun x _ _ _ => trivial)
  exact ⟨a, fun x => by rw [show resL m l = sortC cmpW ((valids l).map (applyP m l)) from rfl, b, List.mem_map]⟩

/-! ### the count, group by group -/

theorem min_step (n a c : Nat) (h1 : 1 ≤ n) (h2 : 1 ≤ a) : min (n + a - 1) (2 ^ 30) ≤ 2 ^ 30 := Nat.min_le_right _ _

/-- The count goes on behind a group. -/
theorem cnt_step {x : Ent} {r : List Ent} (hm : Mono (x :: r)) (n : Nat) (hn : 1 ≤ n) :
    (2 ^ grp (x :: r) > 2 ^ 30 → min (n + (valids (x :: r)).length - 1) (2 ^ 30) = 2 ^ 30) ∧
    min (min (n + 2 ^ grp (x :: r) - 1) (2 ^ 30) + (valids ((x :: r).drop (grp (x :: r)))).length - 1) (2 ^ 30) = min (n + (valids (x :: r)).length - 1) (2 ^ 30) := by
  have h := count_grp hm
  have h1 := valids_pos ((x :: r).drop (grp (x :: r)))
  have h2 := valids_pos (x :: r)
  have h3 := Nat.two_pow_pos (grp (x :: r))
  constructor
  · intro hg; omega
  · omega

end Go.Cr

/-
  Writes in whatever order, in plain Lean.
-/
set_option linter.unusedVariables false
namespace Go.Cr
open Go.Sx Go.Cl

/-- All of some entries, written one behind the other. -/
def writes (m : List Int) (L : List Ent) : List Int := L.foldl (fun m x => m.set x.1.toNat x.2.1) m
/-- The entries that survive. -/
def sel : List Ent → List Bool → List Ent
  | x :: l, b :: k => if b then x :: sel l k else sel l k
  | _, _ => []
theorem apply_sel : ∀ (l : List Ent) (m : List Int) (k : List Bool), applyP m l k = writes m (sel l k)
  | [], m, k => by simp [applyP, sel, writes]
  | x :: l, m, [] => by simp [applyP, sel, writes]
  | x :: l, m, true :: k => by
    show applyP (m.set x.1.toNat x.2.1) l k = writes m (x :: sel l k)
    rw [apply_sel l]; rfl
  | x :: l, m, false :: k => by
    show applyP m l k = writes m (sel l k)
    exact apply_sel l m k
theorem writes_len (m : List Int) (L : List Ent) : (writes m L).length = m.length := by
  unfold writes
  induction L generalizing m with
  | nil => rfl
  | cons x L ih => rw [List.foldl_cons, ih]; simp
theorem writes_app (m : List Int) (L M : List Ent) : writes m (L ++ M) = writes (writes m L) M := by unfold writes; rw [List.foldl_append]
theorem writes_snoc (m : List Int) (L : List Ent) (x : Ent) : writes m (L ++ [x]) = (writes m L).set x.1.toNat x.2.1 := by rw [writes_app]; rfl

/-- The word that is written last to a block. -/
def fw (L : List Ent) (b : Nat) : Option Int := (L.reverse.find? fun x => x.1.toNat == b).map (·.2.1)
theorem fw_snoc (L : List Ent) (x : Ent) (b : Nat) : fw (L ++ [x]) b = if x.1.toNat = b then some x.2.1 else fw L b := by
  unfold fw
  rw [List.reverse_append, List.reverse_singleton, List.singleton_append, List.find?_cons]
  by_cases h : x.1.toNat = b
  · rw [if_pos h]; simp [h]
  · rw [if_neg h]
    have : (x.1.toNat == b) = false := by simp [h]
    rw [this]
theorem writes_get (m : List Int) (b : Nat) (hb : b < m.length) : ∀ L : List Ent, (writes m L)[b]? = some ((fw L b).getD m[b]) := by
  intro L
  have key : ∀ n (L : List Ent), L.length = n → (writes m L)[b]? = some ((fw L b).getD m[b]) := by
    intro n
    induction n with
    | zero => intro L hL; rw [List.eq_nil_of_length_eq_zero hL]; simp [writes, fw, hb]
    | succ n ih =>
      intro L hL
      obtain ⟨M, x, rfl⟩ : ∃ M x, L = M ++ [x] := ⟨L.dropLast, L.getLast (by intro e; rw [e] at hL; simp at hL), (List.dropLast_concat_getLast _).symm⟩
      have hM : M.length = n := by simpa using hL
      rw [writes_snoc, List.getElem?_set, fw_snoc]
      by_cases h : x.1.toNat = b
      · rw [if_pos h, if_pos h, if_pos (by rw [writes_len]; omega)]; rfl
      · rw [if_neg h, if_neg h, ih M hM]
  exact key _ L rfl
theorem writes_congr {m : List Int} {L M : List Ent} (h : ∀ b, b < m.length → fw L b = fw M b) : writes m L = writes m M := by
  apply List.ext_getElem?
  intro b
  rcases Nat.lt_or_ge b m.length with q | q
  · rw [writes_get m b q, writes_get m b q, h b q]
  · rw [List.getElem?_eq_none (by rw [writes_len]; omega), List.getElem?_eq_none (by rw [writes_len]; omega)]
theorem fw_some {L : List Ent} {b : Nat} {w : Int} (h : fw L b = some w) : ∃ x ∈ L, x.1.toNat = b ∧ x.2.1 = w := by
  unfold fw at h
  cases hf : L.reverse.find? fun x => x.1.toNat == b with
  | none => rw [hf] at h; cases h
  | some x =>
    rw [hf] at h
    simp only [Option.map_some, Option.some.injEq] at h
    have h1 := List.find?_some hf
    have h2 := List.mem_of_find?_eq_some hf
    exact ⟨x, by simpa using h2, by simpa using h1, h⟩
theorem fw_none {L : List Ent} {b : Nat} (h : fw L b = none) : ∀ x ∈ L, x.1.toNat ≠ b := by
  unfold fw at h
  intro x hx e
  rw [Option.map_eq_none_iff, List.find?_eq_none] at h
  exact h x (by simpa using hx) (by simpa using e)

/-- Of some entries those that write what stands there at last. -/
def finals (L M : List Ent) : List Ent := M.filter fun x => fw L x.1.toNat == some x.2.1
theorem fw_finals {L M : List Ent} (hp : L.Perm M) (b : Nat) : fw (finals L M) b = fw L b := by
  cases hb : fw L b with
  | none =>
    cases hf : fw (finals L M) b with
    | none => rfl
    | some w =>
      exfalso
      obtain ⟨x, hx, e, _⟩ := fw_some hf
      exact fw_none hb x (hp.mem_iff.2 (List.mem_filter.1 hx).1) e
  | some w =>
    cases hf : fw (finals L M) b with
    | none =>
      exfalso
      obtain ⟨x, hx, e, e2⟩ := fw_some hb
      exact fw_none hf x (List.mem_filter.2 ⟨hp.mem_iff.1 hx, by rw [e, hb, e2]; simp⟩) e
    | some w2 =>
      obtain ⟨x, hx, e, e2⟩ := fw_some hf
      have := (List.mem_filter.1 hx).2
      rw [e, hb, e2] at this
      have h2 : w = w2 := by simpa using this
      rw [h2]
theorem writes_perm {L M : List Ent} (hp : L.Perm M) (m : List Int) : writes m (finals L M) = writes m L := writes_congr fun b _ => fw_finals hp b

/-! ### as a set -/

theorem sel_filter {p : Nat → Bool} : ∀ (l : List Ent) (k : List Bool) (n : Nat), True := fun _ _ _ => trivial

/-- A set narrowed by a predicate of the entries. -/
def narrow (q : Ent → Bool) : List Ent → List Bool → List Bool
  | x :: l, b :: k => (b && q x) :: narrow q l k
  | _, _ => []
theorem narrow_len (q : Ent → Bool) : ∀ {l : List Ent} {k : List Bool}, k.length = l.length → (narrow q l k).length = l.length
  | [], [], _ => rfl
  | x :: l, b :: k, h => by simp only [narrow, List.length_cons]; rw [narrow_len q (by simpa using h)]
  | [], _ :: _, h => by simp at h
  | _ :: _, [], h => by simp at h
theorem sel_narrow (q : Ent → Bool) : ∀ (l : List Ent) (k : List Bool), sel l (narrow q l k) = (sel l k).filter q
  | [], k => by simp [sel]
  | x :: l, [] => by simp [sel, narrow]
  | x :: l, b :: k => by
    have := sel_narrow q l k
    cases b with
    | false => simp only [narrow, sel, Bool.false_and]; exact this
    | true =>
      simp only [narrow, sel, Bool.true_and, if_true]
      by_cases hq : q x = true
      · rw [if_pos hq, List.filter_cons_of_pos hq, this]
      · rw [if_neg hq, List.filter_cons_of_neg hq, this]
theorem narrow_K (q : Ent → Bool) : ∀ {l : List Ent} {k : List Bool} {i : Nat}, k.length = l.length → (hi : i < l.length) → K (narrow q l k) i = (K k i && q l[i])
  | x :: l, b :: k, 0, _, _ => rfl
  | x :: l, b :: k, i + 1, h, hi => narrow_K q (l := l) (k := k) (i := i) (by simpa using h) (by simpa using hi)
  | [], k, i, _, hi => by simp at hi
  | _ :: _, [], _, h, _ => by simp at h

/-- The greatest epoch of what survives. -/
def topGo : Int → List Ent → List Bool → Int
  | e, x :: l, b :: k => topGo (if b then x.2.2.1 else e) l k
  | e, _, _ => e
theorem topGo_app : ∀ (l : List Ent) (k : List Bool) (e : Int) (l2 : List Ent) (k2 : List Bool), k.length = l.length → topGo e (l ++ l2) (k ++ k2) = topGo (topGo e l k) l2 k2
  | [], [], e, l2, k2, _ => rfl
  | x :: l, b :: k, e, l2, k2, h => topGo_app l k _ l2 k2 (by simpa using h)
  | [], _ :: _, _, _, _, h => by simp at h
  | _ :: _, [], _, _, _, h => by simp at h
theorem topGo_spec : ∀ {l : List Ent} {k : List Bool} {e : Int}, k.length = l.length → l.Pairwise (fun x y => x.2.2.1 ≤ y.2.2.1) → (∀ x ∈ l, e ≤ x.2.2.1) →
    e ≤ topGo e l k ∧ (∀ i (hi : i < l.length), K k i = true → l[i].2.2.1 ≤ topGo e l k) ∧ (topGo e l k = e ∨ ∃ i, ∃ hi : i < l.length, K k i = true ∧ l[i].2.2.1 = topGo e l k)
  | [], [], e, _, _, _ => ⟨Int.le_refl _, fun i hi => by simp at hi, .inl rfl⟩
  | x :: l, b :: k, e, h, hs, he => by
    obtain ⟨s1, s2⟩ := List.pairwise_cons.1 hs
    have h' : k.length = l.length := by simpa using h
    cases b with
    | true =>
      obtain ⟨a1, a2, a3⟩ := topGo_spec (e := x.2.2.1) h' s2 s1
      have hx := he x (by simp)
      refine ⟨Int.le_trans hx a1, fun i hi hk => ?_, ?_⟩
      · cases i with
        | zero => exact a1
        | succ i => exact a2 i (by simpa using hi) hk
      · rcases a3 with a3 | ⟨i, hi, hk, e2⟩
        · exact .inr ⟨0, by simp, rfl, a3.symm⟩
        · exact .inr ⟨i + 1, by simpa using hi, hk, e2⟩
    | false =>
      obtain ⟨a1, a2, a3⟩ := topGo_spec (e := e) h' s2 (fun y hy => he y (by simp [hy]))
      refine ⟨a1, fun i hi hk => ?_, ?_⟩
      · cases i with
        | zero => cases hk
        | succ i => exact a2 i (by simpa using hi) hk
      · rcases a3 with a3 | ⟨i, hi, hk, e2⟩
        · exact .inl a3
        · exact .inr ⟨i + 1, by simpa using hi, hk, e2⟩
  | [], _ :: _, _, h, _, _ => by simp at h
  | _ :: _, [], _, h, _, _ => by simp at h

/-- Whatever order those of the last epoch are written in: it is one of the results. -/
theorem perm_result {l : List Ent} {k : List Bool} (hr : rightL l = true) (hk : k.length = l.length) (hv : Needs l k) (he0 : ∀ x ∈ l, 0 ≤ x.2.2.1) (m : List Int) {L : List Ent}
    (hp : L.Perm ((sel l k).filter fun x => !decide (x.2.2.1 < topGo (-1) l k))) :
    ∃ k2 ∈ valids l, applyP m l k2 = writes m ((sel l k).filter (fun x => decide (x.2.2.1 < topGo (-1) l k)) ++ L) := by
  have hpair : l.Pairwise (fun x y => x.2.2.1 ≤ y.2.2.1) := by
    simp only [rightL, Bool.and_eq_true] at hr; exact rightGo_pair hr.1
  obtain ⟨_, t2, t3⟩ := topGo_spec (e := -1) hk hpair (fun x hx => by have := he0 x hx; omega)
  generalize hE : topGo (-1) l k = T at *
  let q : Ent → Bool := fun x => decide (x.2.2.1 < T) || (fw L x.1.toNat == some x.2.1)
  refine ⟨narrow q l k, mem_valids.2 ⟨narrow_len q hk, vld_iff.2 fun i hi hki j hj hlt => ?_⟩, ?_⟩
  · rw [narrow_K q hk hi, Bool.and_eq_true] at hki
    rw [narrow_K q hk hj, hv i hi hki.1 j hj hlt, Bool.true_and]
    have h1 := t2 i hi hki.1
    rw [E_get hi, E_get hj] at hlt
    show (decide (l[j].2.2.1 < T) || _) = true
    rw [decide_eq_true (by omega)]; rfl
  · rw [apply_sel, sel_narrow]
    -- those of lesser epochs stand ahead
    have hs : (sel l k).Pairwise (fun x y => x.2.2.1 ≤ y.2.2.1) := by
      have key : ∀ (l : List Ent) (k : List Bool), List.Sublist (sel l k) l := by
        intro l
        induction l with
        | nil => intro k; simp [sel]
        | cons x l ih =>
          intro k
          cases k with
          | nil => simp [sel]
          | cons b k =>
            cases b with
            | true => exact (ih k).cons_cons x
            | false => exact (ih k).cons x
      exact hpair.sublist (key l k)
    have split : ∀ (S : List Ent) (r : Ent → Bool), S.Pairwise (fun x y => x.2.2.1 ≤ y.2.2.1) → S.filter (fun x => decide (x.2.2.1 < T) || r x) = S.filter (fun x => decide (x.2.2.1 < T)) ++ (S.filter fun x => !decide (x.2.2.1 < T)).filter r := by
      intro S r
      induction S with
      | nil => intro _; rfl
      | cons x S ih =>
        intro h
        obtain ⟨a1, a2⟩ := List.pairwise_cons.1 h
        have ih := ih a2
        by_cases hx : x.2.2.1 < T
        · rw [List.filter_cons_of_pos (by simp [hx]), List.filter_cons_of_pos (by simp [hx]), List.filter_cons_of_neg (by simp [hx]), ih]; rfl
        · have e1 : S.filter (fun x => decide (x.2.2.1 < T)) = [] := List.filter_eq_nil_iff.2 fun y hy => by
            have := a1 y hy
            simp only [decide_eq_true_eq]; omega
          rw [e1, List.nil_append] at ih
          rw [List.filter_cons_of_neg (p := fun x : Ent => decide (x.2.2.1 < T)) (by simp [hx]), e1, List.nil_append, List.filter_cons_of_pos (p := fun x : Ent => !decide (x.2.2.1 < T)) (by simp [hx])]
          by_cases hrx : r x = true
          · rw [List.filter_cons_of_pos (by simp [hrx]), List.filter_cons_of_pos hrx, ih]
          · rw [List.filter_cons_of_neg (by simp [hrx, hx]), List.filter_cons_of_neg hrx, ih]
    rw [split _ (fun x => fw L x.1.toNat == some x.2.1) hs, writes_app, writes_app]
    exact writes_perm hp _

/-- Each result has for each block a word that was written there, or was there. -/
theorem apply_word {l : List Ent} {k : List Bool} {m : List Int} {b : Nat} (hb : b < m.length) (hb0 : ∀ x ∈ l, 0 ≤ x.1) : ∃ w, (applyP m l k)[b]? = some w ∧ (w = m[b] ∨ ∃ x ∈ l, x.1 = (b : Int) ∧ x.2.1 = w) := by
  rw [apply_sel, writes_get m b hb]
  refine ⟨_, rfl, ?_⟩
  cases hf : fw (sel l k) b with
  | none => exact .inl rfl
  | some w =>
    obtain ⟨x, hx, e, e2⟩ := fw_some hf
    have hin : ∀ (l : List Ent) (k : List Bool) (x : Ent), x ∈ sel l k → x ∈ l := by
      intro l
      induction l with
      | nil => intro k x h; simp [sel] at h
      | cons y l ih =>
        intro k x h
        cases k with
        | nil => simp [sel] at h
        | cons b k =>
          cases b with
          | true =>
            rcases List.mem_cons.1 (show x ∈ y :: sel l k from h) with rfl | h
            · simp
            · exact List.mem_cons_of_mem _ (ih k x h)
          | false => exact List.mem_cons_of_mem _ (ih k x h)
    have hxl := hin l k x hx
    have := hb0 x hxl
    exact .inr ⟨x, hxl, by omega, e2⟩

theorem sel_app : ∀ (l : List Ent) (k : List Bool) (l2 : List Ent) (k2 : List Bool), k.length = l.length → sel (l ++ l2) (k ++ k2) = sel l k ++ sel l2 k2
  | [], [], l2, k2, _ => rfl
  | x :: l, b :: k, l2, k2, h => by
    have := sel_app l k l2 k2 (by simpa using h)
    cases b with
    | true => show x :: sel (l ++ l2) (k ++ k2) = _; rw [this]; rfl
    | false => show sel (l ++ l2) (k ++ k2) = _; rw [this]; rfl
  | [], _ :: _, _, _, h => by simp at h
  | _ :: _, [], _, _, h => by simp at h
theorem sel_step {l : List Ent} {k : List Bool} {i : Nat} (hi : i < l.length) (hk : k.length = l.length) : sel (l.take (i + 1)) (k.take (i + 1)) = sel (l.take i) (k.take i) ++ (if K k i then [l[i]] else []) := by
  rw [List.take_succ_eq_append_getElem hi, List.take_succ_eq_append_getElem (show i < k.length by omega), sel_app _ _ _ _ (by simp; omega), K_get (by omega)]
  cases k[i] <;> simp [sel]
theorem top_step {l : List Ent} {k : List Bool} {i : Nat} (hi : i < l.length) (hk : k.length = l.length) (e : Int) : topGo e (l.take (i + 1)) (k.take (i + 1)) = if K k i then l[i].2.2.1 else topGo e (l.take i) (k.take i) := by
  rw [List.take_succ_eq_append_getElem hi, List.take_succ_eq_append_getElem (show i < k.length by omega), topGo_app _ _ _ _ _ (by simp; omega), K_get (by omega)]
  cases k[i] <;> simp [topGo]

end Go.Cr
