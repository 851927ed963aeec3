/-
  RatKeeps in plain form: what is repaired, as a number of bits. No program here.
-/
import Derived.Test.YtjkgncibelojnaaRtT
import Derived.Test.YtjkgncibelojnaaRaL
import Derived.Test.YtjkgncibelojnaaSxN
set_option linter.unusedVariables false
set_option linter.unusedSimpArgs false
namespace Go.Rt
open Go Go.Cl Go.Rp

variable {l X : List Ent} {A B c : List Int} {p : Int}

end Go.Rt

set_option linter.unusedVariables false
set_option linter.unusedSimpArgs false
namespace Go.Proofs.S
open Go Go.Sx Go.Proofs Go.Cl Go.Rp Go.Rt

variable {h : Heap} {c d A f ids : List Int} {l : List Ent} {cs : List (List Int)} {gs us vs : List Grp} {s s2 sc : Sl} {fr : Fr} {G As : List Asn} {id p : Int} {i : Nat} {b m : Nat}

end Go.Proofs.S

set_option linter.unusedVariables false
set_option linter.unusedSimpArgs false
namespace Go.Sx
open Go
variable {α β : Type} {h : Heap} {enc : α → Value} {xs : List α} {s : Sl}
theorem Inner.map {I J : β → Sl → Asn} (hf : ∀ x p S h, (I x p).P S h → (J x p).P S h) : ∀ {xs : List β} {ps : List Sl} {S : List Nat}, Inner I xs ps S h → Inner J xs ps S h
  | [], [], _, e => e
  | x :: xs, p :: ps, S, ⟨S1, S2, e, hp, hi⟩ => ⟨S1, S2, e, hf _ _ _ _ hp, hi.map hf⟩
  | [], _ :: _, _, e => e.elim
  | _ :: _, [], _, e => e.elim
end Go.Sx
namespace Go.Proofs.S
open Go Go.Sx Go.Proofs Go.Cl Go.Rp

variable {h : Heap} {c d A us : List Int} {cs ds hs l : List (List Int)} {s s2 s3 : Sl} {fr : Fr} {G As : List Asn} {b n : Nat} {t : TypeId}

end Go.Proofs.S

set_option linter.unusedVariables false
set_option linter.unusedSimpArgs false
namespace Go.Proofs.S
open Go Go.Sx Go.Proofs Go.Cl Go.Rp Go.Rt

variable {h : Heap} {c d A f ids : List Int} {l : List Ent} {cs : List (List Int)} {gs us vs : List Grp} {s s2 s3 s4 sc : Sl} {fr : Fr} {G As : List Asn} {id p : Int} {i : Nat} {b m : Nat}

theorem checkS_zero {stp : Stp} {a b e : Int} (h : checkS l stp = (a, b, e)) : (e ≠ 0 → a = 0) ∧ (e = 0 → b = 0 ∧ (a = 1 ∨ a = 2)) := by
  unfold checkS at h
  split at h
  · cases h; simp
  split at h
  · cases h; simp
  split at h
  · cases h; simp
  split at h
  · rename_i q
    obtain ⟨rfl, rfl, rfl⟩ : 0 = a ∧ _ = b ∧ _ = e := by simpa using h
    exact ⟨fun _ => rfl, fun k => absurd k q⟩
  split at h
  · cases h; simp
  split at h
  · cases h; simp
  split at h
  · rename_i q
    obtain ⟨rfl, rfl, rfl⟩ : 0 = a ∧ _ = b ∧ _ = e := by simpa using h
    exact ⟨fun _ => rfl, fun k => absurd k q⟩
  split at h
  · rename_i q
    obtain ⟨rfl, rfl, rfl⟩ : 0 = a ∧ _ = b ∧ _ = e := by simpa using h
    exact ⟨fun _ => rfl, fun k => absurd k q⟩
  cases h; simp

theorem named_len {at_ : List Nat} : (named l at_).length = at_.length := by simp [named]
theorem groupsGo_each : ∀ {xs : List Ent} {gs : List Grp}, groupsGo l p A xs = some gs → ∀ g ∈ gs, ∃ x, oneG l p A x = some g
  | [], gs, h, g, hg => by
    simp only [groupsGo, Option.some.injEq] at h
    subst h; simp at hg
  | x :: xs, gs, h, g, hg => by
    rw [groupsGo_cons] at h
    cases h1 : oneG l p A x with
    | none => rw [h1] at h; cases h
    | some g1 =>
      rw [h1] at h
      cases h2 : groupsGo l p A xs with
      | none => rw [h2] at h; cases h
      | some gs2 =>
        rw [h2] at h
        simp only [Option.bind_some, Option.map_some, Option.some.injEq] at h
        subst h
        rcases List.mem_cons.1 hg with rfl | hg
        · exact ⟨x, h1⟩
        · exact groupsGo_each h2 g hg
theorem search_lens (hE : rightE l = true) (hl : l.length ≤ 65536) (hf : fuelE l ≤ 500000) : (searchP l c).1.hints.length ≤ 500000 ∧ (searchP l c).1.groups.length ≤ 500000 ∧ ∀ g ∈ (searchP l c).1.groups, g.2.length ≤ 500000 := by
  by_cases h20 : (findP c (clsE l)).2.2 = 20
  · rw [search20 hE h20]; simp
  by_cases hff : (findP c (clsE l)).2.1 = true
  · rw [searchF hE h20 hff]
    have := (find_good hE hl hff).2
    simp only [named_len]
    exact ⟨by omega, by simp, by simp⟩
  cases c with
  | nil => rw [searchN hE h20 hff (.inl rfl)]; simp
  | cons p r =>
    by_cases h0 : (findP (p :: r) (clsE l)).2.2 = 0
    · obtain ⟨q1, q2⟩ := searchG hE h20 hff h0
      cases hg : groupsGo l p (propGo l (fuelE l) (negs (p :: r)) []).1 (l.filter (isCand p)) with
      | none => rw [q1 hg]; simp
      | some gs =>
        rw [q2 gs hg]
        have h1 := (propGo_len (l := l) (fuelE l) (negs (p :: r)) []).2
        simp only [List.length_nil] at h1
        have h2 := groupsGo_len hg
        have h3 : (l.filter (isCand p)).length ≤ l.length := List.length_filter_le _ _
        refine ⟨by simp only; omega, by simp only; omega, fun g hgm => ?_⟩
        obtain ⟨x, hx⟩ := groupsGo_each hg g hgm
        unfold oneG at hx
        split at hx
        · obtain rfl := Option.some.inj hx; simp
        · split at hx
          · cases hx
          · rename_i q
            obtain rfl := Option.some.inj hx
            have q : (findP (failsP p (propGo l (fuelE l) (negs (p :: r)) []).1 x.2) (clsE l)).2.1 = true := by
              exact Bool.of_not_eq_false fun k => q (.inr k)
            have := (find_good hE hl q).2
            simp only [named_len]; omega
    · rw [searchN hE h20 hff (.inr h0)]; simp
end Go.Proofs.S

set_option linter.unusedVariables false
set_option linter.unusedSimpArgs false
namespace Go.Proofs.S
open Go Go.Sx Go.Proofs Go.Cl Go.Rp Go.Rt

variable {h : Heap} {c d A f ids : List Int} {l : List Ent} {cs : List (List Int)} {gs us vs : List Grp} {s s2 s3 s4 sc : Sl} {fr : Fr} {G As : List Asn} {id p : Int} {i : Nat} {b m : Nat}

theorem made_right (cs : List (List Int)) (m : Nat) (hm : m ≤ 1000) : rightE (numE (allR cs m)) = true := numE_right (by have := allR_len cs m; omega) (allR_right cs m)
end Go.Proofs.S

set_option linter.unusedVariables false
set_option linter.unusedSimpArgs false
namespace Go.Rt
open Go Go.Cl Go.Rp

variable {l X : List Ent} {A B c : List Int} {p : Int}

def defs (x y : Int) : List (List Int) := [[-9, x], [-9, y], [9, -x, -y]]
def Defd (x y : Int) (l : List Ent) : Prop := ∀ e ∈ l, (∀ z ∈ e.2, -6 ≤ z ∧ z ≤ 6) ∨ e.2 ∈ defs x y

theorem defs_right {x y : Int} (hx : x ≠ 0 ∧ -6 ≤ x ∧ x ≤ 6) (hy : y ≠ 0 ∧ -6 ≤ y ∧ y ≤ 6) {d : List Int} (hd : d ∈ defs x y) : rightC d = true := by
  have r : ∀ z : Int, z ≠ 0 → -9 ≤ z → z ≤ 9 → rt z = true := fun z h0 h1 h2 => rt_iff.2 (by omega)
  simp only [defs, List.mem_cons, List.not_mem_nil, or_false] at hd
  rcases hd with rfl | rfl | rfl
  · simp [rightC, r (-9) (by omega) (by omega) (by omega), r x hx.1 (by omega) (by omega)]
  · simp [rightC, r (-9) (by omega) (by omega) (by omega), r y hy.1 (by omega) (by omega)]
  · simp [rightC, r 9 (by omega) (by omega) (by omega), r (-x) (by omega) (by omega) (by omega), r (-y) (by omega) (by omega) (by omega)]

theorem defs_found {x y : Int} (hx : x ≠ 0 ∧ -6 ≤ x ∧ x ≤ 6) (hy : y ≠ 0 ∧ -6 ≤ y ∧ y ≤ 6) (hE : rightE l = true) (hl : l.length ≤ 65536) (hD : Defd x y l) {d : List Int} (hd : d ∈ defs x y) : (searchP l d).2.2.1 = true := by
  have hr := defs_right hx hy hd
  have hd' := hd
  simp only [defs, List.mem_cons, List.not_mem_nil, or_false] at hd
  rcases hd with rfl | rfl | rfl
  · refine search_closed hE hl hr fun e he hc => ?_
    simp only [isCand, Bool.and_eq_true, List.contains_iff_mem] at hc
    rcases hD e he with h | h
    · have := h _ hc.1; omega
    · simp only [defs, List.mem_cons, List.not_mem_nil, or_false] at h
      rcases h with h | h | h
      · rw [h] at hc; simp at hc; omega
      · rw [h] at hc; simp at hc; omega
      · exact ⟨-x, by rw [h]; simp, by omega, by simp⟩
  · refine search_closed hE hl hr fun e he hc => ?_
    simp only [isCand, Bool.and_eq_true, List.contains_iff_mem] at hc
    rcases hD e he with h | h
    · have := h _ hc.1; omega
    · simp only [defs, List.mem_cons, List.not_mem_nil, or_false] at h
      rcases h with h | h | h
      · rw [h] at hc; simp at hc; omega
      · rw [h] at hc; simp at hc; omega
      · exact ⟨-y, by rw [h]; simp, by omega, by simp⟩
  · refine search_closed hE hl hr fun e he hc => ?_
    simp only [isCand, Bool.and_eq_true, List.contains_iff_mem] at hc
    rcases hD e he with h | h
    · have := h _ hc.1; omega
    · simp only [defs, List.mem_cons, List.not_mem_nil, or_false] at h
      rcases h with h | h | h
      · exact ⟨x, by rw [h]; simp, by omega, by simp⟩
      · exact ⟨y, by rw [h]; simp, by omega, by simp⟩
      · rw [h] at hc; simp at hc; omega

theorem rightGo_snoc {e : Ent} : ∀ {l : List Ent} {last : Int}, rightGo last l = true → (∀ x ∈ l, x.1 < e.1) → last < e.1 → e.1 ≤ maxID → rightC e.2 = true → rightGo last (l ++ [e]) = true
  | [], last, _, _, h2, h3, h4 => by simp [rightGo, h2, h3, h4]
  | x :: l, last, h, h1, h2, h3, h4 => by
    simp only [rightGo, List.cons_append, Bool.and_eq_true] at h ⊢
    exact ⟨h.1, rightGo_snoc h.2 (fun y hy => h1 y (by simp [hy])) (h1 x (by simp)) h3 h4⟩
theorem rightE_snoc {e : Ent} (h : rightE l = true) (h1 : ∀ x ∈ l, x.1 < e.1) (h2 : 0 < e.1) (h3 : e.1 ≤ maxID) (h4 : rightC e.2 = true) (h5 : l.length < 1048576) : rightE (l ++ [e]) = true := by
  unfold rightE at h ⊢
  rw [Bool.and_eq_true] at h ⊢
  exact ⟨rightGo_snoc h.1 h1 h2 h3 h4, by simp; omega⟩
theorem Defd.snoc {x y : Int} {e : Ent} (h : Defd x y l) (he : e.2 ∈ defs x y) : Defd x y (l ++ [e]) := fun z hz => by
  rcases List.mem_append.1 hz with hz | hz
  · exact h z hz
  · simp at hz; subst hz; exact .inr he

end Go.Rt
