/-
  The laws' helpers of rat: lists, bits, keeps.
-/
import Derived.Test.YtjkgncibelojnaaGreatRaL
import Derived.Test.YtjkgncibelojnaaGreatSxN
set_option linter.unusedVariables false
set_option linter.unusedSimpArgs false
namespace Go.Proofs.S
open Go Go.Sx Go.Proofs Go.Cl Go.Rp Go.Rt

variable {h : Heap} {c d A f ids : List Int} {l : List Ent} {cs : List (List Int)} {gs us vs : List Grp} {s s2 sc : Sl} {fr : Fr} {G As : List Asn} {id p : Int} {i : Nat} {b m : Nat}

end Go.Proofs.S

set_option linter.unusedVariables false
set_option linter.unusedSimpArgs false
namespace Go.Sx
open Go
variable {α β : Type} {h : Heap} {enc : α → Value} {xs : List α} {s : Sl}
theorem Inner.map {I J : β → Sl → Asn} (hf : ∀ x p S h, (I x p).P S h → (J x p).P S h) : ∀ {xs : List β} {ps : List Sl} {S : List Nat}, Inner I xs ps S h → Inner J xs ps S h
  | [], [], _, e => e
  | x :: xs, p :: ps, S, ⟨S1, S2, e, hp, hi⟩ => ⟨S1, S2, e, hf _ _ _ _ hp, hi.map hf⟩
  | [], _ :: _, _, e => e.elim
  | _ :: _, [], _, e => e.elim
end Go.Sx
namespace Go.Proofs.S
open Go Go.Sx Go.Proofs Go.Cl Go.Rp

variable {h : Heap} {c d A us : List Int} {cs ds hs l : List (List Int)} {s s2 s3 : Sl} {fr : Fr} {G As : List Asn} {b n : Nat} {t : TypeId}

end Go.Proofs.S

set_option linter.unusedVariables false
set_option linter.unusedSimpArgs false
namespace Go.Proofs.S
open Go Go.Sx Go.Proofs Go.Cl Go.Rp Go.Rt

variable {h : Heap} {c d A f ids : List Int} {l : List Ent} {cs : List (List Int)} {gs us vs : List Grp} {s s2 s3 s4 sc : Sl} {fr : Fr} {G As : List Asn} {id p : Int} {i : Nat} {b m : Nat}

theorem named_len {at_ : List Nat} : (named l at_).length = at_.length := by simp [named]
theorem groupsGo_each : ∀ {xs : List Ent} {gs : List Grp}, groupsGo l p A xs = some gs → ∀ g ∈ gs, ∃ x, oneG l p A x = some g
  | [], gs, h, g, hg => by
    simp only [groupsGo, Option.some.injEq] at h
    subst h; simp at hg
  | x :: xs, gs, h, g, hg => by
    rw [groupsGo_cons] at h
    cases h1 : oneG l p A x with
    | none => rw [h1] at h; cases h
    | some g1 =>
      rw [h1] at h
      cases h2 : groupsGo l p A xs with
      | none => rw [h2] at h; cases h
      | some gs2 =>
        rw [h2] at h
        simp only [Option.bind_some, Option.map_some, Option.some.injEq] at h
        subst h
        rcases List.mem_cons.1 hg with rfl | hg
        · exact ⟨x, h1⟩
        · exact groupsGo_each h2 g hg
theorem search_lens (hE : rightE l = true) (hl : l.length ≤ 65536) (hf : fuelE l ≤ 500000) : (searchP l c).1.hints.length ≤ 500000 ∧ (searchP l c).1.groups.length ≤ 500000 ∧ ∀ g ∈ (searchP l c).1.groups, g.2.length ≤ 500000 := by
  by_cases h20 : (findP c (clsE l)).2.2 = 20
  · rw [search20 hE h20]; simp
  by_cases hff : (findP c (clsE l)).2.1 = true
  · rw [searchF hE h20 hff]
    have := (find_good hE hl hff).2
    simp only [named_len]
    exact ⟨by omega, by simp, by simp⟩
  cases c with
  | nil => rw [searchN hE h20 hff (.inl rfl)]; simp
  | cons p r =>
    by_cases h0 : (findP (p :: r) (clsE l)).2.2 = 0
    · obtain ⟨q1, q2⟩ := searchG hE h20 hff h0
      cases hg : groupsGo l p (propGo l (fuelE l) (negs (p :: r)) []).1 (l.filter (isCand p)) with
      | none => rw [q1 hg]; simp
      | some gs =>
        rw [q2 gs hg]
        have h1 := (propGo_len (l := l) (fuelE l) (negs (p :: r)) []).2
        simp only [List.length_nil] at h1
        have h2 := groupsGo_len hg
        have h3 : (l.filter (isCand p)).length ≤ l.length := List.length_filter_le _ _
        refine ⟨by simp only; omega, by simp only; omega, fun g hgm => ?_⟩
        obtain ⟨x, hx⟩ := groupsGo_each hg g hgm
        unfold oneG at hx
        split at hx
        · obtain rfl := Option.some.inj hx; simp
        · split at hx
          · cases hx
          · rename_i q
            obtain rfl := Option.some.inj hx
            have q : (findP (failsP p (propGo l (fuelE l) (negs (p :: r)) []).1 x.2) (clsE l)).2.1 = true := by
              exact Bool.of_not_eq_false fun k => q (.inr k)
            have := (find_good hE hl q).2
            simp only [named_len]; omega
    · rw [searchN hE h20 hff (.inr h0)]; simp
theorem search_err (hE : rightE l = true) (hl : l.length ≤ 65536) (hc : rightC c = true) : (searchP l c).2.2.2 = 0 := by
  have h20 : ¬ (findP c (clsE l)).2.2 = 20 := by
    have hr := cls_right hE
    rw [find_eq hc hr (by simpa [clsE] using hl)]
    split
    · simp
    · split <;> simp
  by_cases hff : (findP c (clsE l)).2.1 = true
  · rw [searchF hE h20 hff]
  cases c with
  | nil => rw [searchN hE h20 hff (.inl rfl)]
  | cons p r =>
    by_cases h0 : (findP (p :: r) (clsE l)).2.2 = 0
    · obtain ⟨q1, q2⟩ := searchG hE h20 hff h0
      cases hg : groupsGo l p (propGo l (fuelE l) (negs (p :: r)) []).1 (l.filter (isCand p)) with
      | none => rw [q1 hg]
      | some gs => rw [q2 gs hg]
    · rw [searchN hE h20 hff (.inr h0)]

end Go.Proofs.S
