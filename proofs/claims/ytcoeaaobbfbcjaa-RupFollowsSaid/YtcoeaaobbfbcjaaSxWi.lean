/-
  A part of what is owned by itself, for a call that turns it and brings more. Nothing here names a program.
-/
import Derived.Test.YtcoeaaobbfbcjaaSxSg
set_option linter.unusedVariables false
namespace Go.Sx
open Go

theorem brT {b : Bool} {A B : HP} {h : Heap} (e : b = true) (hA : A h) : brB b A B h := by subst e; exact hA
theorem brF {b : Bool} {A B : HP} {h : Heap} (e : b = false) (hB : B h) : brB b A B h := by subst e; exact hB

section
variable {fr : Fr} {G As : List Asn} {h h' : Heap} {A : Asn}

/-- One of what is owned by itself: what comes of it, and beside it, comes of it among the others. -/
theorem Hs.within (st : Hs fr G As h) (k : Nat) (hk : As[k]? = some A) :
    ∃ S1, Hs [(S1, h)] G [A] h ∧ ∀ (A' : Asn) Bs h', Hs [(S1, h)] G (A' :: Bs) h' → Hs fr G (As.set k A' ++ Bs) h' := by
  obtain ⟨S, hs, hz, hf⟩ := st
  obtain ⟨S1, S2, hm, hd, hA, hr, hw⟩ := hs.focus k hk
  refine ⟨S1, ⟨S1, ⟨S1, [], by simp, by simp, hA, rfl⟩, fun B hB => ?_, fun p hp => ?_⟩, ?_⟩
  · obtain ⟨SB, pB, dB⟩ := hz B hB
    exact ⟨SB, pB, fun b hb hin => dB b hb ((hm b).2 (.inl hin))⟩
  · simp at hp; subst hp; exact ⟨Ext.refl' _ _, fun b hb => .inl hb⟩
  · rintro A' Bs h' ⟨S', ⟨SA, SB, rfl, hdj, hA', hB'⟩, hz', hf'⟩
    obtain ⟨x, hin⟩ := hf' (S1, h) (by simp)
    have hlt2 : ∀ b ∈ S2, b < h.size := fun b hb => (hr.cel b hb).lt
    have hr' : Sep (As.eraseIdx k) S2 h' := hr.keep x.1 fun b hb => x.2 b (hlt2 b hb) (fun hi => hd b hi hb)
    have off2 : ∀ b ∈ SA ++ SB, b ∉ S2 := fun b hb hi => by
      rcases hin b hb with k | k
      · exact hd b k hi
      · have := hlt2 b hi; simp only at k; omega
    obtain ⟨U, hU, hsU⟩ := hw A' SA h' hr' hA' (fun b hb => off2 b (List.mem_append_left _ hb))
    have hdU : ∀ b ∈ U, b ∉ SB := fun b hb hi => by
      rcases (hU b).1 hb with k | k
      · exact hdj b k hi
      · exact off2 b (List.mem_append_right _ hi) k
    have hSS : ∀ b ∈ U ++ SB, b ∈ S ∨ h.size ≤ b := fun b hb => by
      have : b ∈ SA ++ SB ∨ b ∈ S2 := by
        rcases List.mem_append.1 hb with k | k
        · exact ((hU b).1 k).imp (fun k => List.mem_append_left _ k) id
        · exact .inl (List.mem_append_right _ k)
      rcases this with k | k
      · exact (hin b k).imp (fun k => (hm b).2 (.inl k)) id
      · exact .inl ((hm b).2 (.inr k))
    refine ⟨U ++ SB, hsU.append hB' hdU, fun B hB => ?_, fun p hp => ?_⟩
    · obtain ⟨SB', pB, dB⟩ := hz B hB
      refine ⟨SB', Asn.ext pB x (fun b hb hi => dB b hb ((hm b).2 (.inl hi))), fun b hb hi => ?_⟩
      rcases hSS b hi with k | k
      · exact dB b hb k
      · have := At.lt pB b hb; omega
    · obtain ⟨e, hb⟩ := hf p hp
      refine ⟨e.trans x fun b hb' => hb b ((hm b).2 (.inl hb')), fun b hb' => ?_⟩
      rcases hSS b hb' with k | k
      · exact hb b k
      · exact .inr (Nat.le_trans e.1 k)

/-- A call that turns nothing that is owned. -/
theorem Hs.beside (st : Hs fr G As h) : Hs [([], h)] G [] h ∧ ∀ Bs h', Hs [([], h)] G Bs h' → Hs fr G (As ++ Bs) h' := by
  obtain ⟨S, hs, hz, hf⟩ := st
  refine ⟨⟨[], rfl, fun B hB => let ⟨SB, pB, _⟩ := hz B hB; ⟨SB, pB, by simp⟩, fun p hp => ?_⟩, ?_⟩
  · simp at hp; subst hp; exact ⟨Ext.refl' _ _, fun b hb => by cases hb⟩
  · rintro Bs h' ⟨SB, hB', hz', hf'⟩
    obtain ⟨x, hin⟩ := hf' ([], h) (by simp)
    have hnew : ∀ b ∈ SB, h.size ≤ b := fun b hb => (hin b hb).elim (fun k => by cases k) id
    have hlt : ∀ b ∈ S, b < h.size := fun b hb => (hs.cel b hb).lt
    have hSS : ∀ b ∈ S ++ SB, b ∈ S ∨ h.size ≤ b := fun b hb => (List.mem_append.1 hb).imp id (hnew b)
    refine ⟨S ++ SB, (hs.keep x.1 fun b hb => x.2 b (hlt b hb) (by simp)).append hB' (fun b hb hi => by have := hlt b hb; have := hnew b hi; omega), (hz.mono hSS).ext x (by simp), (hf.mono hSS).ext x (by simp)⟩

/-- All that stands behind is frozen. -/
theorem Hs.freezeR : ∀ {Bs As : List Asn} {G : List Asn}, Hs fr G (As ++ Bs) h → Hs fr (G ++ Bs) As h
  | [], As, G, st => by simpa using st
  | B :: Bs, As, G, st => by
    have st1 := st.freeze As.length (A := B) (by simp)
    rw [show (As ++ B :: Bs).eraseIdx As.length = As ++ Bs by rw [List.eraseIdx_append_of_length_le (Nat.le_refl _)]; simp] at st1
    have := Hs.freezeR st1
    simpa using this

/-- What is frozen, by its place in the list. -/
theorem Hs.fzm (st : Hs fr G As h) (hA : A ∈ G) : At h A := by
  obtain ⟨k, hk⟩ := List.getElem?_of_mem hA
  exact st.fz k hk

/-- What is frozen, once more. -/
theorem Hs.gainM (st : Hs fr G As h) (hA : A ∈ G) : Hs fr (G ++ [A]) As h := by
  obtain ⟨k, hk⟩ := List.getElem?_of_mem hA
  exact st.gain k hk fun S h p => ⟨S, p, fun b hb => hb⟩
/-- A slice of one's own is frozen, as one that is read. -/
theorem Hs.froz {α : Type} {t : TypeId} {enc : α → Value} {xs : List α} {s : Sl} (st : Hs fr G As h) (k : Nat) (hk : As[k]? = some (osl t enc xs s)) : Hs fr (G ++ [rsl enc xs s]) (As.eraseIdx k) h := by
  have st := st.freeze k hk
  have st := st.gain (B := rsl enc xs s) G.length (A := osl t enc xs s) (by simp) fun S h p => ⟨S, osl_rsl p, fun b hb => hb⟩
  exact st.less fun A hA => by
    rcases List.mem_append.1 hA with h | h
    · exact List.mem_append_left _ (List.mem_append_left _ h)
    · exact List.mem_append_right _ h
/-- The same, in place of what was frozen last. -/
theorem Hs.swapF {α : Type} {t : TypeId} {enc : α → Value} {xs : List α} {s : Sl} {X : Asn} (st : Hs fr (G ++ [X]) As h) (k : Nat) (hk : As[k]? = some (osl t enc xs s)) : Hs fr (G ++ [rsl enc xs s]) (As.eraseIdx k) h :=
  (st.froz k hk).less fun A hA => by
    rcases List.mem_append.1 hA with h | h
    · exact List.mem_append_left _ (List.mem_append_left _ h)
    · exact List.mem_append_right _ h
theorem Hs.fzL {X : Asn} (st : Hs fr (G ++ [X]) As h) : At h X := st.fz G.length (by simp)

end
end Go.Sx

/-
  Maps whose keys are whole numbers: the assertion, and the words' rules by it. Nothing here names a program.
-/
set_option linter.unusedVariables false
namespace Go.Sx
open Go

/-- Block b is a map with these values. -/
def mp (b : Nat) (κ : IntKind) (τ : Ty) (f : Int → Option τ.T) : Asn where
  P := fun S h => S = [b] ∧ ∃ es clk, mapAt h b κ es clk ∧ ∀ y u, hasKV es.toList κ y u ↔ ∃ t, f y = some t ∧ u = τ.enc t
  loc := fun {S h h'} ⟨e, es, clk, ⟨h1, h2, h3⟩, hf⟩ hz hk => ⟨e, es, clk, ⟨by rw [hk b (by simp [e])]; exact h1, h2, h3⟩, hf⟩
  cel := fun {S h} ⟨e, es, clk, ⟨h1, _, _⟩, _⟩ b' hb => by subst e; simp at hb; subst hb; exact .inr ⟨es, clk, h1⟩

section
variable {fr : Fr} {G As : List Asn} {h h' : Heap} {b : Nat} {κ : IntKind} {τ : Ty} {f : Int → Option τ.T}

theorem mget_ok (hA : At h (mp b κ τ f)) {x : Int} {z : τ.T} {K : τ.T → HP} (hK : K ((f x).getD z) h) : mget τ κ (τ.enc z) (.map (some b)) x K h := by
  obtain ⟨S, _, es, clk, hm, hf⟩ := hA
  refine ⟨b, es, clk, rfl, hm, _, ?_, hK⟩
  cases hx : f x with
  | none =>
    refine .inl ⟨fun e he hk => ?_, rfl⟩
    obtain ⟨t, ht, _⟩ := (hf x e.val).1 ⟨e, he, hk, rfl⟩
    rw [hx] at ht; cases ht
  | some t => exact .inr ((hf x (τ.enc t)).2 ⟨t, hx, rfl⟩)

theorem Hs.mput (st : Hs fr G As h) (k : Nat) (hk : As[k]? = some (mp b κ τ f)) {x : Int} {v : τ.T} {K : HP}
    (hK : ∀ h', Hs fr G (As.set k (mp b κ τ (fun y => if y = x then some v else f y))) h' → K h') : Sx.mput κ (.map (some b)) x (τ.enc v) K h := by
  obtain ⟨S1, ⟨eS, es, clk, hm, hf⟩, hw⟩ := st.focus k hk
  subst eS
  refine ⟨b, es, clk, rfl, hm, fun es' clk' hm' hkv => hK _ ?_⟩
  refine hw (mp b κ τ (fun y => if y = x then some v else f y)) [b] _ ⟨by simp, fun b' hb hn => ?_⟩ ⟨rfl, es', clk', hm', fun y u => ?_⟩ fun b' hb => .inl hb
  · rw [Array.getElem?_setIfInBounds, if_neg (fun e => hn (by simp [e]))]
  · rw [hkv]
    by_cases hy : y = x
    · subst hy
      simp
    · simp [hy, hf]

theorem Hs.mkm (st : Hs fr G As h) (κ : IntKind) (τ : Ty) {K : Nat → HP} (hK : ∀ b h', Hs fr G (As ++ [mp b κ τ (fun _ => none)]) h' → K b h') : Sx.mkm K h := by
  refine hK h.size _ (st.new ((Ext.refl' [] h).push _) ⟨[h.size], ⟨rfl, #[], 0, ⟨by rw [Array.getElem?_push]; simp, by simp, by simp⟩, fun y u => ?_⟩, by simp⟩)
  simp [hasKV]
end
end Go.Sx
