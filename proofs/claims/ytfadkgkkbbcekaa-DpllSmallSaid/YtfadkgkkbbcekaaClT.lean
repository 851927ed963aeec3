/-
  The reference over clauses: Without, Clashes, Union, Resolve, Compare; lists of numbers as clauses and back.
-/
import Derived.Test.YtfadkgkkbbcekaaSxW3
import Derived.Test.YtfadkgkkbbcekaaClA
import Derived.Test.YtfadkgkkbbcekaaSxT
set_option linter.unusedVariables false
namespace Go.Proofs.S
open Go Go.Sx Go.Proofs Go.Cl

variable {h : Heap} {c d : List Int} {s s2 : Sl} {fr : Fr} {G As : List Asn}

theorem clause_c (hA : At h (li c s)) (hl : c.length ≤ 1048576) : callT Try.prog fn_salvorlaw02_Clause #[.slice s.a s.len s.cap] .sl (fun s' h' => New h.size h' (lo c s') ∧ Ext [] h h') h := by
  refine callT_gen fun K hK => S_salvorlaw02_Clause (a0 := s) K ?_
  unfold F_salvorlaw02_Clause
  have l1 := rsl_len hA
  have st := (Hs.start h [] (by simp)).nil ty_lits_Lit i64.enc none
  refine lfp_invh (I := fun m σ h' => ∃ (i : Nat) (s' : Sl), σ = ((i : Int), s', ()) ∧ i ≤ c.length ∧ Hs [([], h)] [] [lo (c.take i) s'] h' ∧ m = c.length - i) ⟨_, 0, ⟨none, 0, 0⟩, rfl, by omega, st, rfl⟩ ?_
  clear st
  rintro m σ h2 X ⟨i, s', rfl, hi, st, em⟩ hX
  have hA1 := hA.ext (st.frame (by simp))
  simp only
  by_cases hlt : i < c.length
  · rw [show decide ((i : Int) < (s.len : Int)) = true by rw [l1]; exact dlt_t hlt, brB_true, inc_i (show i < 4611686018427387904 by omega)]
    refine rdE (τ := i64) hA1 hlt ?_
    refine st.nw fun b9 h3 st => ?_
    refine st.apd (enc := i64.enc) (v := c[i]) 0 1 rfl rfl (by decide) rfl (by simp; omega) (by decide) rfl fun s7 h4 st => ?_
    refine hX _ _ _ ⟨i + 1, s7, rfl, by omega, ?_, rfl⟩ (by omega)
    have st := st.drop 1 rfl
    rw [take_succ_getE hlt]; exact st
  · rw [show decide ((i : Int) < (s.len : Int)) = false by rw [l1]; exact dlt_f hlt, brB_false]
    rw [List.take_of_length_le (by omega)] at st
    exact hK _ _ ⟨st.res (by simp) 0 rfl, st.frame (by simp)⟩

theorem ints_c (hA : At h (li c s)) (hl : c.length ≤ 1048576) : callT Try.prog fn_salvorlaw02_Ints #[.slice s.a s.len s.cap] .sl (fun s' h' => New h.size h' (io c s') ∧ Ext [] h h') h := by
  refine callT_gen fun K hK => S_salvorlaw02_Ints (a0 := s) K ?_
  unfold F_salvorlaw02_Ints
  have l1 := rsl_len hA
  have st := (Hs.start h [] (by simp)).nil ty_int i64.enc none
  refine lfp_invh (I := fun m σ h' => ∃ (i : Nat) (s' : Sl), σ = ((i : Int), s', ()) ∧ i ≤ c.length ∧ Hs [([], h)] [] [io (c.take i) s'] h' ∧ m = c.length - i) ⟨_, 0, ⟨none, 0, 0⟩, rfl, by omega, st, rfl⟩ ?_
  clear st
  rintro m σ h2 X ⟨i, s', rfl, hi, st, em⟩ hX
  have hA1 := hA.ext (st.frame (by simp))
  simp only
  by_cases hlt : i < c.length
  · rw [show decide ((i : Int) < (s.len : Int)) = true by rw [l1]; exact dlt_t hlt, brB_true, inc_i (show i < 4611686018427387904 by omega)]
    refine rdE (τ := i64) hA1 hlt ?_
    refine st.nw fun b9 h3 st => ?_
    refine st.apd (enc := i64.enc) (v := c[i]) 0 1 rfl rfl (by decide) rfl (by simp; omega) (by decide) rfl fun s7 h4 st => ?_
    refine hX _ _ _ ⟨i + 1, s7, rfl, by omega, ?_, rfl⟩ (by omega)
    have st := st.drop 1 rfl
    rw [take_succ_getE hlt]; exact st
  · rw [show decide ((i : Int) < (s.len : Int)) = false by rw [l1]; exact dlt_f hlt, brB_false]
    rw [List.take_of_length_le (by omega)] at st
    exact hK _ _ ⟨st.res (by simp) 0 rfl, st.frame (by simp)⟩

end Go.Proofs.S

set_option linter.unusedVariables false
namespace Go.Cl
open Go.Sx

end Go.Cl

set_option linter.unusedVariables false
set_option linter.unusedSimpArgs false
namespace Go.Proofs.S
open Go Go.Sx Go.Proofs Go.Cl

variable {h : Heap} {c d : List Int} {s s2 : Sl} {fr : Fr} {G As : List Asn}

end Go.Proofs.S

set_option linter.unusedVariables false
namespace Go.Cl
open Go.Sx

section
variable {a b c : List Int}

end

end Go.Cl

set_option linter.unusedVariables false
namespace Go.Cl
open Go.Sx

def varsP (n : Int) : Bool := decide (n ≥ 0) && decide (n ≤ 1048576)
def varL (x : Int) : Int := if rt x then (if x < 0 then -x else x) else 0
def beyP (n x : Int) : Bool := !rt x || decide (varL x > n)
def checkGo (n : Int) : Nat → List (List Int) → Int × Int
  | _, [] => (-1, 0)
  | i, c :: cs => if rightC c then (if c.any (beyP n) then ((i : Int), 51) else checkGo n (i + 1) cs) else ((i : Int), 20)
def checkP (n : Int) (cs : List (List Int)) : Int × Int := if varsP n then (if cs.length > 262144 then (-1, 5) else checkGo n 0 cs) else (-1, 50)

def GoodF (n : Int) (cs : List (List Int)) : Prop := varsP n = true ∧ cs.length ≤ 262144 ∧ ∀ c ∈ cs, rightC c = true ∧ ∀ x ∈ c, beyP n x = false

theorem checkGo_good {n : Int} : ∀ {cs : List (List Int)} {i : Nat}, (checkGo n i cs).2 = 0 ↔ ∀ c ∈ cs, rightC c = true ∧ ∀ x ∈ c, beyP n x = false
  | [], i => by simp [checkGo]
  | c :: cs, i => by
    unfold checkGo
    by_cases hr : rightC c = true
    · rw [if_pos hr]
      by_cases hb : c.any (beyP n) = true
      · rw [if_pos hb]
        constructor
        · intro h; simp at h
        · intro h
          obtain ⟨x, hx, hxb⟩ := List.any_eq_true.1 hb
          have := (h c (by simp)).2 x hx
          rw [this] at hxb; cases hxb
      · rw [if_neg hb, checkGo_good]
        have hb' : ∀ x ∈ c, beyP n x = false := by
          intro x hx
          cases h : beyP n x with
          | false => rfl
          | true => exact absurd (List.any_eq_true.2 ⟨x, hx, h⟩) hb
        constructor
        · intro h d hd
          rcases List.mem_cons.1 hd with rfl | hd
          · exact ⟨hr, hb'⟩
          · exact h d hd
        · intro h d hd; exact h d (by simp [hd])
    · rw [if_neg hr]
      constructor
      · intro h; simp at h
      · intro h; exact absurd (h c (by simp)).1 hr
theorem check_good {n : Int} {cs : List (List Int)} : (checkP n cs).2 = 0 ↔ GoodF n cs := by
  unfold checkP GoodF
  by_cases hv : varsP n = true
  · rw [if_pos hv]
    by_cases hl : cs.length > 262144
    · rw [if_pos hl]
      constructor
      · intro h; simp at h
      · intro h; omega
    · rw [if_neg hl, checkGo_good]
      exact ⟨fun h => ⟨hv, by omega, h⟩, fun h => h.2.2⟩
  · rw [if_neg hv]
    constructor
    · intro h; simp at h
    · intro h; exact absurd h.1 hv
end Go.Cl

set_option linter.unusedVariables false
namespace Go.Sx
open Go

def Inner {β : Type} (I : β → Sl → Asn) : List β → List Sl → List Nat → Heap → Prop
  | [], [], S, _ => S = []
  | x :: xs, p :: ps, S, h => ∃ S1 S2, S = S1 ++ S2 ∧ (I x p).P S1 h ∧ Inner I xs ps S2 h
  | _, _, _, _ => False

section
variable {β : Type} {I : β → Sl → Asn}

theorem Inner.loc : ∀ {xs : List β} {ps : List Sl} {S : List Nat} {h h' : Heap}, Inner I xs ps S h → h.size ≤ h'.size → (∀ b ∈ S, h'[b]? = h[b]?) → Inner I xs ps S h'
  | [], [], _, _, _, e, _, _ => e
  | x :: xs, p :: ps, S, h, h', ⟨S1, S2, e, hp, hi⟩, hz, hk => by
    subst e
    exact ⟨S1, S2, rfl, (I x p).loc hp hz fun b hb => hk b (List.mem_append_left _ hb), Inner.loc hi hz fun b hb => hk b (List.mem_append_right _ hb)⟩
  | [], _ :: _, _, _, _, e, _, _ => e.elim
  | _ :: _, [], _, _, _, e, _, _ => e.elim
theorem Inner.cel : ∀ {xs : List β} {ps : List Sl} {S : List Nat} {h : Heap}, Inner I xs ps S h → ∀ b ∈ S, isCells h b
  | [], [], _, _, e, b, hb => by cases e; cases hb
  | x :: xs, p :: ps, S, h, ⟨S1, S2, e, hp, hi⟩, b, hb => by
    subst e
    rcases List.mem_append.1 hb with hb | hb
    · exact (I x p).cel hp b hb
    · exact Inner.cel hi b hb
  | [], _ :: _, _, _, e, _, _ => e.elim
  | _ :: _, [], _, _, e, _, _ => e.elim

def rsg (I : β → Sl → Asn) (xs : List β) (s : Sl) : Asn where
  P := fun S h => ∃ ps S1 S2, S = S1 ++ S2 ∧ (rsl Ty.sl.enc ps s).P S1 h ∧ Inner I xs ps S2 h
  loc := fun {S h h'} ⟨ps, S1, S2, e, hp, hi⟩ hz hk => by
    subst e
    exact ⟨ps, S1, S2, rfl, (rsl Ty.sl.enc ps s).loc hp hz fun b hb => hk b (List.mem_append_left _ hb), hi.loc hz fun b hb => hk b (List.mem_append_right _ hb)⟩
  cel := fun {S h} ⟨ps, S1, S2, e, hp, hi⟩ b hb => by
    subst e
    rcases List.mem_append.1 hb with hb | hb
    · exact (rsl Ty.sl.enc ps s).cel hp b hb
    · exact hi.cel b hb

theorem Inner.len : ∀ {xs : List β} {ps : List Sl} {S : List Nat} {h : Heap}, Inner I xs ps S h → ps.length = xs.length
  | [], [], _, _, _ => rfl
  | x :: xs, p :: ps, S, h, ⟨S1, S2, e, hp, hi⟩ => by simp [Inner.len hi]
  | [], _ :: _, _, _, e => e.elim
  | _ :: _, [], _, _, e => e.elim
theorem Inner.get : ∀ {xs : List β} {ps : List Sl} {S : List Nat} {h : Heap}, Inner I xs ps S h → ∀ i (h1 : i < xs.length) (h2 : i < ps.length), At h (I xs[i] ps[i])
  | x :: xs, p :: ps, S, h, ⟨S1, S2, e, hp, hi⟩, 0, _, _ => ⟨S1, hp⟩
  | x :: xs, p :: ps, S, h, ⟨S1, S2, e, hp, hi⟩, i + 1, h1, h2 => Inner.get hi i (Nat.lt_of_succ_lt_succ h1) (Nat.lt_of_succ_lt_succ h2)
  | [], _, _, _, _, i, h1, _ => by simp at h1
  | _, [], _, _, _, i, _, h2 => by simp at h2

theorem rsg_open {xs : List β} {s : Sl} {h : Heap} (hA : At h (rsg I xs s)) : ∃ ps, ps.length = xs.length ∧ At h (rsl Ty.sl.enc ps s) ∧ ∀ i (h1 : i < xs.length) (h2 : i < ps.length), At h (I xs[i] ps[i]) := by
  obtain ⟨S, ps, S1, S2, e, hp, hi⟩ := hA
  exact ⟨ps, hi.len, ⟨S1, hp⟩, fun i h1 h2 => hi.get i h1 h2⟩

theorem Inner.make {n : Nat} : ∀ {xs : List β} {ps : List Sl} {h : Heap}, ps.length = xs.length → (∀ i (h1 : i < xs.length) (h2 : i < ps.length), New n h (I xs[i] ps[i])) → ∃ S, Inner I xs ps S h ∧ ∀ b ∈ S, n ≤ b
  | [], [], _, _, _ => ⟨[], rfl, by simp⟩
  | x :: xs, p :: ps, h, hl, hi => by
    obtain ⟨S1, hp, g1⟩ := hi 0 (by simp) (by simp)
    obtain ⟨S2, hs, g2⟩ := Inner.make (n := n) (xs := xs) (ps := ps) (h := h) (by simpa using hl) fun i h1 h2 => hi (i + 1) (Nat.succ_lt_succ h1) (Nat.succ_lt_succ h2)
    exact ⟨S1 ++ S2, ⟨S1, S2, rfl, hp, hs⟩, fun b hb => (List.mem_append.1 hb).elim (g1 b) (g2 b)⟩
  | [], _ :: _, _, hl, _ => by simp at hl
  | _ :: _, [], _, hl, _ => by simp at hl

theorem rsg_new {n : Nat} {xs : List β} {ps : List Sl} {s : Sl} {h : Heap} (hl : ps.length = xs.length) (ho : New n h (rsl Ty.sl.enc ps s)) (hi : ∀ i (h1 : i < xs.length) (h2 : i < ps.length), New n h (I xs[i] ps[i])) : New n h (rsg I xs s) := by
  obtain ⟨S1, hp, g1⟩ := ho
  obtain ⟨S2, hs, g2⟩ := Inner.make hl hi
  exact ⟨S1 ++ S2, ⟨ps, S1, S2, rfl, hp, hs⟩, fun b hb => (List.mem_append.1 hb).elim (g1 b) (g2 b)⟩
theorem At.new0 {h : Heap} {A : Asn} (hA : At h A) : New 0 h A := let ⟨S, p⟩ := hA; ⟨S, p, fun _ _ => Nat.zero_le _⟩
theorem rsg_at {xs : List β} {ps : List Sl} {s : Sl} {h : Heap} (hl : ps.length = xs.length) (ho : At h (rsl Ty.sl.enc ps s)) (hi : ∀ i (h1 : i < xs.length) (h2 : i < ps.length), At h (I xs[i] ps[i])) : At h (rsg I xs s) :=
  (rsg_new hl ho.new0 fun i h1 h2 => (hi i h1 h2).new0).at
theorem rsg_len {xs : List β} {s : Sl} {h : Heap} (hA : At h (rsg I xs s)) : s.len = xs.length := by
  obtain ⟨ps, hl, ho, _⟩ := rsg_open hA
  rw [rsl_len ho, hl]
theorem rdG {xs : List β} {s : Sl} {h : Heap} (hA : At h (rsg I xs s)) {i : Nat} (hi : i < xs.length) {K : Sl → HP} (hK : ∀ p, At h (I xs[i] p) → K p h) : sx s.a s.len (i : Int) 1 (fun p => ldT .sl p K) h := by
  obtain ⟨ps, hl, ho, hx⟩ := rsg_open hA
  exact rd_ok (τ := .sl) ho (List.getElem?_eq_getElem (show i < ps.length by omega)) (hK _ (hx i hi (by omega)))

end
end Go.Sx
