/-
  The laws' helpers of rat: lists, bits, keeps.
-/
import Derived.Test.YtjkgncibelojnaaGreatRaL
import Derived.Test.YtjkgncibelojnaaGreatSxN
import Derived.Test.YtjkgncibelojnaaGreatRuE
import Derived.Test.YtjkgncibelojnaaGreatSxW3
set_option linter.unusedVariables false
set_option linter.unusedSimpArgs false
namespace Go.Proofs.S
open Go Go.Sx Go.Proofs Go.Cl Go.Rp Go.Rt
variable {h : Heap} {c d A f ids : List Int} {l : List Ent} {cs : List (List Int)} {gs us vs : List Grp} {s s2 sc : Sl} {fr : Fr} {G As : List Asn} {id p : Int} {i : Nat} {b m : Nat}
end Go.Proofs.S
namespace Go.Sx
open Go
variable {α β : Type} {h : Heap} {enc : α → Value} {xs : List α} {s : Sl}
theorem Inner.map {I J : β → Sl → Asn} (hf : ∀ x p S h, (I x p).P S h → (J x p).P S h) : ∀ {xs : List β} {ps : List Sl} {S : List Nat}, Inner I xs ps S h → Inner J xs ps S h
  | [], [], _, e => e
  | x :: xs, p :: ps, S, ⟨S1, S2, e, hp, hi⟩ => ⟨S1, S2, e, hf _ _ _ _ hp, hi.map hf⟩
  | [], _ :: _, _, e => e.elim
  | _ :: _, [], _, e => e.elim
end Go.Sx
namespace Go.Proofs.S
open Go Go.Sx Go.Proofs Go.Cl Go.Rp
variable {h : Heap} {c d A us : List Int} {cs ds hs l : List (List Int)} {s s2 s3 : Sl} {fr : Fr} {G As : List Asn} {b n : Nat} {t : TypeId}
end Go.Proofs.S
namespace Go.Proofs.S
open Go Go.Sx Go.Proofs Go.Cl Go.Rp Go.Rt
variable {h : Heap} {c d A f ids : List Int} {l : List Ent} {cs : List (List Int)} {gs us vs : List Grp} {s s2 s3 s4 sc : Sl} {fr : Fr} {G As : List Asn} {id p : Int} {i : Nat} {b m : Nat}
theorem checkS_zero {stp : Stp} {a b e : Int} (h : checkS l stp = (a, b, e)) : (e ≠ 0 → a = 0) ∧ (e = 0 → b = 0 ∧ (a = 1 ∨ a = 2)) := by
  unfold checkS at h
  split at h
  · cases h; simp
  split at h
  · cases h; simp
  split at h
  · cases h; simp
  split at h
  · rename_i q
    obtain ⟨rfl, rfl, rfl⟩ : 0 = a ∧ _ = b ∧ _ = e := by simpa using h
    exact ⟨fun _ => rfl, fun k => absurd k q⟩
  split at h
  · cases h; simp
  split at h
  · cases h; simp
  split at h
  · rename_i q
    obtain ⟨rfl, rfl, rfl⟩ : 0 = a ∧ _ = b ∧ _ = e := by simpa using h
    exact ⟨fun _ => rfl, fun k => absurd k q⟩
  split at h
  · rename_i q
    obtain ⟨rfl, rfl, rfl⟩ : 0 = a ∧ _ = b ∧ _ = e := by simpa using h
    exact ⟨fun _ => rfl, fun k => absurd k q⟩
  cases h; simp
theorem named_len {at_ : List Nat} : (named l at_).length = at_.length := by simp [named]
theorem groupsGo_each : ∀ {xs : List Ent} {gs : List Grp}, groupsGo l p A xs = some gs → ∀ g ∈ gs, ∃ x, oneG l p A x = some g
  | [], gs, h, g, hg => by
    simp only [groupsGo, Option.some.injEq] at h
    subst h; simp at hg
  | x :: xs, gs, h, g, hg => by
    rw [groupsGo_cons] at h
    cases h1 : oneG l p A x with
    | none => rw [h1] at h; cases h
    | some g1 =>
      rw [h1] at h
      cases h2 : groupsGo l p A xs with
      | none => rw [h2] at h; cases h
      | some gs2 =>
        rw [h2] at h
        simp only [Option.bind_some, Option.map_some, Option.some.injEq] at h
        subst h
        rcases List.mem_cons.1 hg with rfl | hg
        · exact ⟨x, h1⟩
        · exact groupsGo_each h2 g hg
theorem search_lens (hE : rightE l = true) (hl : l.length ≤ 65536) (hf : fuelE l ≤ 500000) : (searchP l c).1.hints.length ≤ 500000 ∧ (searchP l c).1.groups.length ≤ 500000 ∧ ∀ g ∈ (searchP l c).1.groups, g.2.length ≤ 500000 := by
  by_cases h20 : (findP c (clsE l)).2.2 = 20
  · rw [search20 hE h20]; simp
  by_cases hff : (findP c (clsE l)).2.1 = true
  · rw [searchF hE h20 hff]
    have := (find_good hE hl hff).2
    simp only [named_len]
    exact ⟨by omega, by simp, by simp⟩
  cases c with
  | nil => rw [searchN hE h20 hff (.inl rfl)]; simp
  | cons p r =>
    by_cases h0 : (findP (p :: r) (clsE l)).2.2 = 0
    · obtain ⟨q1, q2⟩ := searchG hE h20 hff h0
      cases hg : groupsGo l p (propGo l (fuelE l) (negs (p :: r)) []).1 (l.filter (isCand p)) with
      | none => rw [q1 hg]; simp
      | some gs =>
        rw [q2 gs hg]
        have h1 := (propGo_len (l := l) (fuelE l) (negs (p :: r)) []).2
        simp only [List.length_nil] at h1
        have h2 := groupsGo_len hg
        have h3 : (l.filter (isCand p)).length ≤ l.length := List.length_filter_le _ _
        refine ⟨by simp only; omega, by simp only; omega, fun g hgm => ?_⟩
        obtain ⟨x, hx⟩ := groupsGo_each hg g hgm
        unfold oneG at hx
        split at hx
        · obtain rfl := Option.some.inj hx; simp
        · split at hx
          · cases hx
          · rename_i q
            obtain rfl := Option.some.inj hx
            have q : (findP (failsP p (propGo l (fuelE l) (negs (p :: r)) []).1 x.2) (clsE l)).2.1 = true := by
              exact Bool.of_not_eq_false fun k => q (.inr k)
            have := (find_good hE hl q).2
            simp only [named_len]; omega
    · rw [searchN hE h20 hff (.inr h0)]; simp
theorem search_err (hE : rightE l = true) (hl : l.length ≤ 65536) (hc : rightC c = true) : (searchP l c).2.2.2 = 0 := by
  have h20 : ¬ (findP c (clsE l)).2.2 = 20 := by
    have hr := cls_right hE
    rw [find_eq hc hr (by simpa [clsE] using hl)]
    split
    · simp
    · split <;> simp
  by_cases hff : (findP c (clsE l)).2.1 = true
  · rw [searchF hE h20 hff]
  cases c with
  | nil => rw [searchN hE h20 hff (.inl rfl)]
  | cons p r =>
    by_cases h0 : (findP (p :: r) (clsE l)).2.2 = 0
    · obtain ⟨q1, q2⟩ := searchG hE h20 hff h0
      cases hg : groupsGo l p (propGo l (fuelE l) (negs (p :: r)) []).1 (l.filter (isCand p)) with
      | none => rw [q1 hg]
      | some gs => rw [q2 gs hg]
    · rw [searchN hE h20 hff (.inr h0)]
end Go.Proofs.S
namespace Go.Proofs.S
open Go Go.Sx Go.Proofs Go.Cl Go.Rp
variable {h : Heap} {c d A us : List Int} {cs ds hs : List (List Int)} {s s2 : Sl} {fr : Fr} {G As : List Asn} {b : Nat}
theorem r8_has_c (hA : At h (li c s)) (hl : c.length ≤ 1099511627776) (v : Int) : callT Tryz.prog fn_salvorref08_has #[.slice s.a s.len s.cap, .int .i64 v] .bool (fun r h' => r = c.contains v ∧ h' = h) h := by
  refine callT_gen fun K hK => S_salvorref08_has (a0 := s) (a1 := v) K ?_
  unfold F_salvorref08_has
  have l1 := rsl_len hA
  refine lfp_invh (I := fun m σ h' => ∃ i : Nat, σ = ((i : Int), false, ()) ∧ i ≤ c.length ∧ v ∉ c.take i ∧ h' = h ∧ m = c.length - i) ⟨_, 0, rfl, by omega, by simp, rfl, rfl⟩ ?_
  rintro m σ h' X ⟨i, rfl, hi, hp, rfl, em⟩ hX
  simp only
  by_cases hlt : i < c.length
  · refine brT (by rw [l1]; exact dlt_t hlt) ?_
    rw [inc_i (by omega)]
    refine rdE (τ := i64) hA hlt ?_
    by_cases he : c[i] = v
    · refine brT (by simpa using he) (hK _ _ ⟨?_, rfl⟩)
      symm; rw [List.contains_iff_mem, ← he]; exact List.getElem_mem hlt
    · refine brF (by simpa using he) ?_
      exact hX _ _ _ ⟨i + 1, rfl, by omega, fun hx => by
        rw [take_lt hlt] at hx
        rcases List.mem_append.1 hx with hx | hx
        · exact hp hx
        · simp at hx; exact he hx.symm, rfl, rfl⟩ (by omega)
  · refine brF (by rw [l1]; exact dlt_f hlt) (hK _ _ ⟨?_, rfl⟩)
    rw [List.take_of_length_le (by omega)] at hp
    symm; simpa using hp
theorem r8_right_c (hA : At h (li c s)) (hl : c.length ≤ 1099511627776) : callT Tryz.prog fn_salvorref08_Right #[.slice s.a s.len s.cap] .bool (fun r h' => r = okA c ∧ h' = h) h := by
  refine callT_gen fun K hK => S_salvorref08_Right (a0 := s) K ?_
  unfold F_salvorref08_Right
  have l1 := rsl_len hA
  refine lfp_invh (I := fun m σ h' => ∃ i : Nat, σ = ((i : Int), false, ()) ∧ i ≤ c.length ∧ (∀ x ∈ c.take i, rt x = true ∧ -x ∉ c) ∧ h' = h ∧ m = c.length - i) ⟨_, 0, rfl, by omega, by simp, rfl, rfl⟩ ?_
  rintro m σ h' X ⟨i, rfl, hi, hp, rfl, em⟩ hX
  simp only
  by_cases hlt : i < c.length
  · refine brT (by rw [l1]; exact dlt_t hlt) ?_
    rw [inc_i (by omega)]
    refine rdE (τ := i64) hA hlt ?_
    refine call_of (r1_right_c _) ?_
    rintro _ h2 ⟨rfl, e⟩; subst e
    have bad : (rt c[i] = true → -c[i] ∈ c) → K false h2 := fun hb => hK _ _ ⟨by
      cases ho : okA c
      · rfl
      · obtain ⟨a, b⟩ := okA_iff.1 ho
        exact absurd (hb (a _ (List.getElem_mem hlt))) (b _ (List.getElem_mem hlt)), rfl⟩
    refine jn_in fun J hJ => ?_
    cases hr : rt c[i]
    · exact brT rfl (hJ _ _ (brT rfl (bad fun k => by rw [hr] at k; cases k)))
    · refine brF rfl ?_
      refine rdE (τ := i64) hA hlt ?_
      rw [wneg hr]
      refine call_of (r8_has_c hA hl _) ?_
      rintro _ h3 ⟨rfl, e⟩; subst e
      refine hJ _ _ ?_
      by_cases hn : -c[i] ∈ c
      · exact brT (by simpa using hn) (bad fun _ => hn)
      · refine brF (by simpa using hn) ?_
        exact hX _ _ _ ⟨i + 1, rfl, by omega, fun x hx => by
          rw [take_lt hlt] at hx
          rcases List.mem_append.1 hx with hx | hx
          · exact hp x hx
          · simp at hx; subst hx; exact ⟨hr, hn⟩, rfl, rfl⟩ (by omega)
  · refine brF (by rw [l1]; exact dlt_f hlt) (hK _ _ ⟨?_, rfl⟩)
    rw [List.take_of_length_le (by omega)] at hp
    symm; exact okA_iff.2 ⟨fun x hx => (hp x hx).1, fun x hx => (hp x hx).2⟩
theorem freeGo_snoc {A : List Int} : ∀ {L acc : List Int} {x : Int}, freeGo A acc (L ++ [x]) = (if A.contains (-x) || (freeGo A acc L).contains x then freeGo A acc L else freeGo A acc L ++ [x])
  | [], acc, x => by simp [freeGo]
  | l :: L, acc, x => by
    simp only [List.cons_append, freeGo]
    split
    · exact freeGo_snoc
    · exact freeGo_snoc
theorem freeGo_len {A : List Int} : ∀ {L acc : List Int}, (freeGo A acc L).length ≤ acc.length + L.length
  | [], acc => by simp [freeGo]
  | l :: L, acc => by
    simp only [freeGo]
    split
    · have := freeGo_len (A := A) (L := L) (acc := acc); simp; omega
    · have := freeGo_len (A := A) (L := L) (acc := acc ++ [l]); simp at this ⊢; omega
theorem r8_look_c (hA : At h (li c s)) (hB : At h (li A s2)) (hr : ∀ x ∈ c, rt x = true) (hl : c.length ≤ 1048576) (hl2 : A.length ≤ 1099511627776) : callT Tryz.prog fn_salvorref08_Look #[.slice s.a s.len s.cap, .slice s2.a s2.len s2.cap] (.tup (.cons (.int .i64) (.cons (.int .i64) .nil)))
    (fun r h' => r = ((lookP A c).1, (lookP A c).2, ()) ∧ Ext [] h h') h := by
  refine callT_gen fun K hK => S_salvorref08_Look (a0 := s) (a1 := s2) K ?_
  unfold F_salvorref08_Look
  have l1 := rsl_len hA
  have st := (Hs.start h [li c s, li A s2] (by simp [hA, hB])).nil ty_int i64.enc none
  refine lfp_invh (I := fun m σ h' => ∃ (i : Nat) (f : Sl) (x y : Int), σ = ((i : Int), f, x, y, ()) ∧ i ≤ c.length ∧ (∀ x ∈ c.take i, x ∉ A) ∧ m = c.length - i ∧ Hs [([], h)] [li c s, li A s2] [iox (freeGo A [] (c.take i)) f] h')
    ⟨_, 0, ⟨none, 0, 0⟩, 0, 0, rfl, by omega, by simp, rfl, by simpa [freeGo] using st⟩ ?_
  clear st
  rintro m σ h1 X ⟨i, f, x, y, rfl, hi, hp, rfl, st⟩ hX
  have hfl := freeGo_len (A := A) (L := c.take i) (acc := [])
  simp only [List.length_take, List.length_nil] at hfl
  simp only
  by_cases hlt : i < c.length
  · refine brT (by rw [l1]; exact dlt_t hlt) ?_
    rw [inc_i (by omega)]
    refine rdE (τ := i64) (st.fz 0 rfl) hlt ?_
    refine call_of (r8_has_c (st.fz 1 rfl) hl2 _) ?_
    rintro _ h2 ⟨rfl, e⟩; subst e
    by_cases h1 : c[i] ∈ A
    · refine brT (by simpa using h1) (hK _ _ ⟨?_, st.frame (by simp)⟩)
      have : lookP A c = (1, 0) := by unfold lookP; rw [if_pos (List.any_eq_true.2 ⟨_, List.getElem_mem hlt, by simpa using h1⟩)]
      rw [this]
    · refine brF (by simpa using h1) ?_
      refine rdE (τ := i64) (st.fz 0 rfl) hlt ?_
      rw [wneg (hr _ (List.getElem_mem hlt))]
      refine call_of (r8_has_c (st.fz 1 rfl) hl2 _) ?_
      rintro _ h3 ⟨rfl, e⟩; subst e
      have hp' : ∀ x ∈ c.take (i + 1), x ∉ A := fun x hx => by
        rw [take_lt hlt] at hx
        rcases List.mem_append.1 hx with hx | hx
        · exact hp x hx
        · simp at hx; subst hx; exact h1
      refine jn_mid (M := fun t h' => t = !(A.contains (-c[i]) || (freeGo A [] (c.take i)).contains c[i]) ∧ h' = h3) ?_ ?_
      rotate_left
      · intro J hJ
        cases h2 : A.contains (-c[i])
        · refine brT rfl ?_
          refine rdE (τ := i64) (st.fz 0 rfl) hlt ?_
          refine call_of (r8_has_c (st.own 0 rfl).rsl (by omega) _) ?_
          rintro _ h4 ⟨rfl, e⟩; subst e
          exact hJ _ _ ⟨by rw [h2, Bool.false_or], rfl⟩
        · exact brF rfl (hJ _ _ ⟨by rw [h2]; rfl, rfl⟩)
      rintro _ h4 ⟨rfl, e⟩; subst e
      refine jn_in fun J hJ => ?_
      have eg := freeGo_snoc (A := A) (L := c.take i) (acc := []) (x := c[i])
      rw [← take_lt hlt] at eg
      cases hb : (A.contains (-c[i]) || (freeGo A [] (c.take i)).contains c[i])
      · rw [hb, if_neg (by simp)] at eg
        refine brT rfl ?_
        refine rdE (τ := i64) (st.fz 0 rfl) hlt ?_
        refine st.nw fun b14 h5 st => ?_
        refine st.apd 0 1 rfl rfl (by decide) rfl (by omega) (by decide) rfl fun s15 h6 st => ?_
        have st := st.drop 1 rfl
        rw [← eg] at st
        exact hJ _ _ (hX _ _ _ ⟨i + 1, s15, x, y, rfl, by omega, hp', rfl, st⟩ (by omega))
      · rw [hb, if_pos rfl] at eg
        refine brF rfl (hJ _ _ ?_)
        rw [← eg] at st
        exact hX _ _ _ ⟨i + 1, f, x, y, rfl, by omega, hp', rfl, st⟩ (by omega)
  · refine brF (by rw [l1]; exact dlt_f hlt) ?_
    rw [List.take_of_length_le (by omega)] at hp st
    have hany : ¬ (c.any A.contains = true) := fun hc => by
      obtain ⟨x, hx, hA⟩ := List.any_eq_true.1 hc
      exact hp x hx (by simpa using hA)
    have eL : lookP A c = kindOf (freeGo A [] c) := by unfold lookP; rw [if_neg hany]; rfl
    rw [eL] at hK
    have lf := osl_len (st.own 0 rfl)
    rcases kindOf_cases (freeGo A [] c) with ⟨e, hL⟩ | ⟨z, e, hL⟩ | ⟨e, z, y', r, hL⟩
    · rw [hL] at lf
      exact brT (by simpa using lf) (hK _ _ ⟨by rw [e], st.frame (by simp)⟩)
    · have lf' := lf
      rw [hL] at lf
      simp at lf
      refine brF (by simp [lf]) (brT (by simp [lf]) ?_)
      rw [show (0 : Int) = ((0 : Nat) : Int) from rfl]
      refine rdE (τ := i64) (st.own 0 rfl).rsl (i := 0) (by omega) ?_
      refine hK _ _ ⟨?_, st.frame (by simp)⟩
      rw [e]
      simp only [hL]; rfl
    · rw [hL] at lf
      simp at lf
      exact brF (by rw [beq_eq_false_iff_ne]; show ((f.len : Nat) : Int) ≠ 0; omega) (brF (by rw [beq_eq_false_iff_ne]; show ((f.len : Nat) : Int) ≠ 1; omega) (hK _ _ ⟨by rw [e], st.frame (by simp)⟩))
theorem r8_assume_c (hA : At h (li c s)) (hc : rightC c = true) : callT Tryz.prog fn_salvorref08_Assume #[.slice s.a s.len s.cap] (.tup (.cons .sl (.cons .bool .nil)))
    (fun r h' => ∃ s', r = (s', (assumeP c).2.1, ()) ∧ New h.size h' (iox (assumeP c).1 s') ∧ Ext [] h h') h := by
  refine callT_gen fun K hK => S_salvorref08_Assume (a0 := s) K ?_
  unfold F_salvorref08_Assume
  have hcl := rightC_len hc
  have hrt := rightC_rt hc
  have l1 := rsl_len hA
  have eS : assumeP c = if alwaysC c then ([], true, 0) else (negs c, false, 0) := by unfold assumeP; rw [hc]; rfl
  have yes : ∀ {h' : Heap}, alwaysC c = true → Ext [] h h' → K (⟨none, 0, 0⟩, true, ()) h' := fun ha x => by
    rw [ha, if_pos rfl] at eS
    exact hK _ _ ⟨⟨none, 0, 0⟩, by rw [eS], by rw [eS]; exact osl_nil _ _, x⟩
  -- the negations
  have hm : ∀ x, x ∈ negs c ↔ x ∈ c.map fun x => -x := fun x => by
    rw [mem_negs hc, List.mem_map]
    exact ⟨fun hx => ⟨-x, hx, by omega⟩, fun ⟨y, hy, e⟩ => by rw [← e, Int.neg_neg]; exact hy⟩
  have hrN : ∀ x ∈ negs c, rt x = true := fun x hx => by
    have := rt_iff.1 (hrt _ ((mem_negs hc).1 hx))
    exact rt_iff.2 (by omega)
  have hlN : (negs c).length ≤ c.length := by unfold negs; rw [List.length_map]; exact nrm_length c
  have st := (Hs.start h [li c s] (by simp [hA])).nil ty_int i64.enc none
  refine lfp_invh (I := fun m σ h' => ∃ (k : Nat) (last : Int) (o : Sl) (x : Bool) (y : Sl), σ = (last, o, x, y, ()) ∧ k ≤ (negs c).length ∧ (∀ j (hj : j < (negs c).length), ix (negs c)[j] > last ↔ k ≤ j) ∧ Hs [([], h)] [li c s] [iox ((negs c).take k) o] h' ∧ m = (negs c).length - k)
    ⟨_, 0, -1, ⟨none, 0, 0⟩, false, ⟨none, 0, 0⟩, rfl, by omega, fun j hj => ⟨fun _ => by omega, fun _ => by have := ix_nonneg (hrN _ (List.getElem_mem hj)); omega⟩, st, rfl⟩ ?_
  clear st
  rintro m σ h1 X ⟨k, last, o, x, y, rfl, hk, hlast, st, em⟩ hX
  simp only
  let d := c.map fun x => -x
  have hd : d.length = c.length := by simp [d]
  have hdi : ∀ i (h1 : i < d.length) (h2 : i < c.length), d[i] = -c[i] := fun i h1 h2 => by simp [d]
  refine lfp_invh (I := fun m σ h' => ∃ (i : Nat) (b : Int) (x' : Bool) (y' : Sl), σ = ((i : Int), b, x', y', ()) ∧ i ≤ c.length ∧ (∀ z ∈ c.take i, -z ∉ c) ∧ ((b = -1 ∧ ∀ x ∈ d.take i, ¬ ix x > last) ∨ (∃ x ∈ d.take i, ix x = b ∧ ix x > last ∧ ∀ y ∈ d.take i, ix y > last → b ≤ ix y)) ∧ h' = h1 ∧ m = c.length - i)
    ⟨_, 0, -1, x, y, rfl, by omega, by simp, .inl ⟨rfl, by simp⟩, rfl, rfl⟩ ?_
  rintro m2 σ2 h' Y ⟨i, b, x', y', rfl, hi, hno, hb, rfl, em2⟩ hY
  simp only
  by_cases hlt : i < c.length
  · refine brT (by rw [l1]; exact dlt_t hlt) ?_
    rw [inc_i (by omega)]
    refine rdE (τ := i64) (st.fz 0 rfl) hlt ?_
    have hri := hrt _ (List.getElem_mem hlt)
    rw [wneg hri]
    refine call_of (r8_has_c (st.fz 0 rfl) (by omega) _) ?_
    rintro _ h2 ⟨rfl, e⟩; subst e
    by_cases hn : -c[i] ∈ c
    · exact brT (by simpa using hn) (yes (always_iff.2 ⟨_, List.getElem_mem hlt, hn⟩) (st.frame (by simp)))
    · refine brF (by simpa using hn) ?_
      refine rdE (τ := i64) (st.fz 0 rfl) hlt ?_
      rw [wneg hri]
      refine call_of (r1_index_c _) ?_
      rintro _ h3 ⟨rfl, e⟩; subst e
      have hrn : rt (-c[i]) = true := by have := rt_iff.1 hri; exact rt_iff.2 (by omega)
      rw [if_pos hrn]
      have hin := ix_nonneg hrn
      have hltd : i < d.length := by omega
      have hmem : ∀ y, y ∈ d.take (i + 1) ↔ y ∈ d.take i ∨ y = -c[i] := fun y => by rw [take_lt hltd, List.mem_append, List.mem_singleton, hdi i hltd hlt]
      have hno' : ∀ z ∈ c.take (i + 1), -z ∉ c := fun z hz => by
        rw [take_lt hlt] at hz
        rcases List.mem_append.1 hz with hz | hz
        · exact hno z hz
        · simp at hz; subst hz; exact hn
      have keep : ∀ b', ((b' = -1 ∧ ∀ x ∈ d.take (i + 1), ¬ ix x > last) ∨ (∃ x ∈ d.take (i + 1), ix x = b' ∧ ix x > last ∧ ∀ y ∈ d.take (i + 1), ix y > last → b' ≤ ix y)) → Y (((i + 1 : Nat) : Int), b', x', y', ()) h3 :=
        fun b' hb' => hY _ _ _ ⟨i + 1, b', x', y', rfl, by omega, hno', hb', rfl, rfl⟩ (by omega)
      have stay : (¬ ix (-c[i]) > last ∨ (b ≠ -1 ∧ b ≤ ix (-c[i]))) → Y (((i + 1 : Nat) : Int), b, x', y', ()) h3 := fun hs => keep b (by
        rcases hb with ⟨e, hn⟩ | ⟨x, hx, e, hg, hmin⟩
        · refine .inl ⟨e, fun y hy => ?_⟩
          rcases (hmem y).1 hy with hy | rfl
          · exact hn y hy
          · rcases hs with hs | hs
            · exact hs
            · exact absurd e hs.1
        · refine .inr ⟨x, (hmem _).2 (.inl hx), e, hg, fun y hy hyg => ?_⟩
          rcases (hmem y).1 hy with hy | rfl
          · exact hmin y hy hyg
          · rcases hs with hs | hs
            · exact absurd hyg hs
            · exact hs.2)
      have take' : ix (-c[i]) > last → (b = -1 ∨ ix (-c[i]) < b) → Y (((i + 1 : Nat) : Int), ix (-c[i]), x', y', ()) h3 := fun hg hs => keep _ (.inr ⟨_, (hmem _).2 (.inr rfl), rfl, hg, fun y hy hyg => by
        rcases (hmem y).1 hy with hy | rfl
        · rcases hb with ⟨_, hn⟩ | ⟨x, hx, e, _, hmin⟩
          · exact absurd hyg (hn y hy)
          · have h1 := hmin y hy hyg
            have hxr : rt x = true := by
              obtain ⟨z, hz, ez⟩ := List.mem_map.1 (List.mem_of_mem_take hx)
              have := rt_iff.1 (hrt z hz); exact rt_iff.2 (by omega)
            have := ix_nonneg hxr
            omega
        · exact Int.le_refl _⟩)
      have hb0 : b = -1 ∨ 0 ≤ b := by
        rcases hb with ⟨e, _⟩ | ⟨x, hx, e, _, _⟩
        · exact .inl e
        · obtain ⟨z, hz, ez⟩ := List.mem_map.1 (List.mem_of_mem_take hx)
          have hxr : rt x = true := by have := rt_iff.1 (hrt z hz); exact rt_iff.2 (by omega)
          have := ix_nonneg hxr
          exact .inr (by omega)
      refine jn_mid (M := fun t h' => t = decide (ix (-c[i]) > last ∧ (b < 0 ∨ ix (-c[i]) < b)) ∧ h' = h3) ?_ ?_
      rotate_left
      · intro J hJ
        by_cases hg : ix (-c[i]) > last
        · refine brT (decide_eq_true hg) (jn_in fun J2 hJ2 => ?_)
          by_cases hbn : b < 0
          · refine brT (decide_eq_true hbn) (hJ2 _ _ (hJ _ _ ⟨?_, rfl⟩))
            symm; exact decide_eq_true ⟨hg, .inl hbn⟩
          · refine brF (decide_eq_false hbn) (hJ2 _ _ (hJ _ _ ⟨?_, rfl⟩))
            by_cases hl : ix (-c[i]) < b
            · rw [decide_eq_true hl, decide_eq_true ⟨hg, .inr hl⟩]
            · rw [decide_eq_false hl, decide_eq_false (by simp [hbn, hl])]
        · refine brF (decide_eq_false hg) (hJ _ _ ⟨?_, rfl⟩)
          rw [decide_eq_false (by simp [hg])]
      rintro _ h4 ⟨rfl, e⟩; subst e
      refine jn_in fun J hJ => ?_
      by_cases ht : ix (-c[i]) > last ∧ (b < 0 ∨ ix (-c[i]) < b)
      · exact brT (decide_eq_true ht) (hJ _ _ (take' ht.1 (by omega)))
      · refine brF (decide_eq_false ht) (hJ _ _ (stay ?_))
        by_cases hg : ix (-c[i]) > last
        · exact .inr (by omega)
        · exact .inl hg
  · refine brF (by rw [l1]; exact dlt_f hlt) ?_
    rw [List.take_of_length_le (by omega)] at hno
    rw [List.take_of_length_le (by omega)] at hb
    have ha : alwaysC c = false := by
      cases ha : alwaysC c
      · rfl
      · obtain ⟨z, hz, hn⟩ := always_iff.1 ha
        exact absurd hn (hno z hz)
    rw [ha, if_neg (by simp)] at eS
    have hsN := strict_negs hc ha
    rcases sel hsN hrN hm hk hlast hb with ⟨ek, rfl⟩ | ⟨hkl, rfl⟩
    · refine brT rfl ?_
      rw [ek, List.take_length] at st
      exact hK _ _ ⟨o, by rw [eS], by rw [eS]; exact st.res (by simp) 0 rfl, st.frame (by simp)⟩
    · have hrk := hrN _ (List.getElem_mem hkl)
      have := ix_nonneg hrk
      refine brF (decide_eq_false (show ¬ ix (negs c)[k] < 0 by omega)) ?_
      refine call_of (r1_at_c hrk) ?_
      rintro _ h2 ⟨rfl, e⟩; subst e
      refine st.nw fun b14 h3 st => ?_
      refine st.apd (enc := i64.enc) (v := (negs c)[k]) 0 1 rfl rfl (by decide) rfl (by simp; omega) (by decide) rfl fun s7 h4 st => ?_
      refine hX _ _ _ ⟨k + 1, _, s7, x', y', rfl, by omega, fun j hj => ?_, ?_, rfl⟩ (by omega)
      · show ix (negs c)[k] < ix (negs c)[j] ↔ _
        rw [← ltL_rt hrk (hrN _ (List.getElem_mem hj))]
        constructor
        · intro hh
          rcases Nat.lt_or_ge k j with hkj | hkj
          · omega
          · rcases Nat.lt_or_eq_of_le hkj with hjk | hjk
            · rw [ltL_asymm (List.pairwise_iff_getElem.1 hsN j k hj hkl hjk)] at hh; cases hh
            · subst hjk; rw [ltL_irrefl] at hh; cases hh
        · intro hh; exact List.pairwise_iff_getElem.1 hsN k j hkl hj (by omega)
      · have st := st.drop 1 rfl
        rw [take_lt hkl]; exact st
end Go.Proofs.S
