/-
  Slices of slices of one's own, sorted by what stands behind them, and compacted. Nothing here names a program.
-/
import Derived.Test.YtjkgncibelojnaaGreatSxG
import Derived.Test.YtjkgncibelojnaaGreatSxSort
set_option linter.unusedVariables false
namespace Go.Sx
open Go Go.Sort
theorem Sep.mem : ∀ {As : List Asn} {S : List Nat} {h : Heap} {B : Asn}, Sep As S h → B ∈ As → ∃ SB, B.P SB h ∧ ∀ b ∈ SB, b ∈ S
  | [], _, _, _, _, hB => by cases hB
  | A :: As, S, h, B, ⟨S1, S2, e, hd, hA, hs⟩, hB => by
    subst e
    rcases List.mem_cons.1 hB with rfl | hB
    · exact ⟨S1, hA, fun b hb => List.mem_append_left _ hb⟩
    · obtain ⟨SB, p, q⟩ := Sep.mem hs hB
      exact ⟨SB, p, fun b hb => List.mem_append_right _ (q b hb)⟩
section
variable {fr : Fr} {G As : List Asn} {h h' : Heap} {A B A' : Asn}
theorem Hs.moveS (st : Hs fr G As h) (k kc : Nat) (hk : As[k]? = some A) (hkc : As[kc]? = some B) (hne : k ≠ kc) (hA : ∀ S1 S2, A.P S1 h → B.P S2 h → (∀ b ∈ S1, b ∉ S2) → ∃ S', A'.P S' h ∧ ∀ b ∈ S', b ∈ S1 ∨ b ∈ S2) :
    Hs fr G ((As.set kc emp).set k A') h := by
  obtain ⟨S, hs, hz, hf⟩ := st
  obtain ⟨S1, S2, hm, hd, hB, hr, hw⟩ := hs.focus kc hkc
  obtain ⟨U, hmU, hsU⟩ := hw emp [] h hr rfl (by simp)
  obtain ⟨T1, T2, hmT, hdT, hA1, hrT, hwT⟩ := hsU.focus k (A := A) (by rw [List.getElem?_set, if_neg (fun e => hne e.symm)]; exact hk)
  have hsub : ∀ b, b ∈ T1 ∨ b ∈ T2 → b ∈ S2 := fun b hb => by
    rcases (hmU b).1 ((hmT b).2 hb) with h | h
    · cases h
    · exact h
  obtain ⟨V, hV, hVs⟩ := hA T1 S1 hA1 hB fun b hb hin => hd b hin (hsub b (.inl hb))
  obtain ⟨W, hmW, hsW⟩ := hwT A' V h hrT hV fun b hb hin => by
    rcases hVs b hb with q | q
    · exact hdT b q hin
    · exact hd b q (hsub b (.inr hin))
  have hWS : ∀ b ∈ W, b ∈ S := fun b hb => by
    rcases (hmW b).1 hb with q | q
    · rcases hVs b q with q | q
      · exact (hm b).2 (.inr (hsub b (.inl q)))
      · exact (hm b).2 (.inl q)
    · exact (hm b).2 (.inr (hsub b (.inr q)))
  exact ⟨W, hsW, hz.mono fun b hb => .inl (hWS b hb), hf.mono fun b hb => .inl (hWS b hb)⟩
structure SortedG {β : Type} (M : β → Prop) (c : β → β → Int) (xs : List β) (ps ys : List Sl) (val : Sl → β) : Prop where
  perm : ys.Perm ps
  vals : ps.map val = xs
  mem : ∀ p, M (val p)
  pair : ys.Pairwise (fun a b => decide (c (val b) (val a) < 0) = false)
theorem Inner.at {β : Type} {I : β → Sl → Asn} {xs : List β} {ps : List Sl} (hA : At h (inn I xs ps)) : ps.length = xs.length ∧ ∀ i (h1 : i < xs.length) (h2 : i < ps.length), At h (I xs[i] ps[i]) :=
  let ⟨S, p⟩ := hA; ⟨Inner.len p, fun i h1 h2 => Inner.get p i h1 h2⟩
section
variable {P : Program} {f : SF} {t : TypeId} {cmp : Value} {β : Type} {I : β → Sl → Asn} {M : β → Prop} {c : β → β → Int} {xs : List β} {s : Sl}
end
end
end Go.Sx
namespace Go.Sx
open Go
theorem brT {b : Bool} {A B : HP} {h : Heap} (e : b = true) (hA : A h) : brB b A B h := by subst e; exact hA
theorem brF {b : Bool} {A B : HP} {h : Heap} (e : b = false) (hB : B h) : brB b A B h := by subst e; exact hB
section
variable {fr : Fr} {G As : List Asn} {h h' : Heap} {A : Asn}
theorem Hs.beside (st : Hs fr G As h) : Hs [([], h)] G [] h ∧ ∀ Bs h', Hs [([], h)] G Bs h' → Hs fr G (As ++ Bs) h' := by
  obtain ⟨S, hs, hz, hf⟩ := st
  refine ⟨⟨[], rfl, fun B hB => let ⟨SB, pB, _⟩ := hz B hB; ⟨SB, pB, by simp⟩, fun p hp => ?_⟩, ?_⟩
  · simp at hp; subst hp; exact ⟨Ext.refl' _ _, fun b hb => by cases hb⟩
  · rintro Bs h' ⟨SB, hB', hz', hf'⟩
    obtain ⟨x, hin⟩ := hf' ([], h) (by simp)
    have hnew : ∀ b ∈ SB, h.size ≤ b := fun b hb => (hin b hb).elim (fun k => by cases k) id
    have hlt : ∀ b ∈ S, b < h.size := fun b hb => (hs.cel b hb).lt
    have hSS : ∀ b ∈ S ++ SB, b ∈ S ∨ h.size ≤ b := fun b hb => (List.mem_append.1 hb).imp id (hnew b)
    refine ⟨S ++ SB, (hs.keep x.1 fun b hb => x.2 b (hlt b hb) (by simp)).append hB' (fun b hb hi => by have := hlt b hb; have := hnew b hi; omega), (hz.mono hSS).ext x (by simp), (hf.mono hSS).ext x (by simp)⟩
theorem Hs.freezeR : ∀ {Bs As : List Asn} {G : List Asn}, Hs fr G (As ++ Bs) h → Hs fr (G ++ Bs) As h
  | [], As, G, st => by simpa using st
  | B :: Bs, As, G, st => by
    have st1 := st.freeze As.length (A := B) (by simp)
    rw [show (As ++ B :: Bs).eraseIdx As.length = As ++ Bs by rw [List.eraseIdx_append_of_length_le (Nat.le_refl _)]; simp] at st1
    have := Hs.freezeR st1
    simpa using this
theorem Hs.fzm (st : Hs fr G As h) (hA : A ∈ G) : At h A := by
  obtain ⟨k, hk⟩ := List.getElem?_of_mem hA
  exact st.fz k hk
theorem Hs.gainM (st : Hs fr G As h) (hA : A ∈ G) : Hs fr (G ++ [A]) As h := by
  obtain ⟨k, hk⟩ := List.getElem?_of_mem hA
  exact st.gain k hk fun S h p => ⟨S, p, fun b hb => hb⟩
theorem Hs.froz {α : Type} {t : TypeId} {enc : α → Value} {xs : List α} {s : Sl} (st : Hs fr G As h) (k : Nat) (hk : As[k]? = some (osl t enc xs s)) : Hs fr (G ++ [rsl enc xs s]) (As.eraseIdx k) h := by
  have st := st.freeze k hk
  have st := st.gain (B := rsl enc xs s) G.length (A := osl t enc xs s) (by simp) fun S h p => ⟨S, osl_rsl p, fun b hb => hb⟩
  exact st.less fun A hA => by
    rcases List.mem_append.1 hA with h | h
    · exact List.mem_append_left _ (List.mem_append_left _ h)
    · exact List.mem_append_right _ h
end
end Go.Sx
namespace Go.Sx
open Go
def mp (b : Nat) (κ : IntKind) (τ : Ty) (f : Int → Option τ.T) : Asn where
  P := fun S h => S = [b] ∧ ∃ es clk, mapAt h b κ es clk ∧ ∀ y u, hasKV es.toList κ y u ↔ ∃ t, f y = some t ∧ u = τ.enc t
  loc := fun {S h h'} ⟨e, es, clk, ⟨h1, h2, h3⟩, hf⟩ hz hk => ⟨e, es, clk, ⟨by rw [hk b (by simp [e])]; exact h1, h2, h3⟩, hf⟩
  cel := fun {S h} ⟨e, es, clk, ⟨h1, _, _⟩, _⟩ b' hb => by subst e; simp at hb; subst hb; exact .inr ⟨es, clk, h1⟩
section
variable {fr : Fr} {G As : List Asn} {h h' : Heap} {b : Nat} {κ : IntKind} {τ : Ty} {f : Int → Option τ.T}
theorem mget_ok (hA : At h (mp b κ τ f)) {x : Int} {z : τ.T} {K : τ.T → HP} (hK : K ((f x).getD z) h) : mget τ κ (τ.enc z) (.map (some b)) x K h := by
  obtain ⟨S, _, es, clk, hm, hf⟩ := hA
  refine ⟨b, es, clk, rfl, hm, _, ?_, hK⟩
  cases hx : f x with
  | none =>
    refine .inl ⟨fun e he hk => ?_, rfl⟩
    obtain ⟨t, ht, _⟩ := (hf x e.val).1 ⟨e, he, hk, rfl⟩
    rw [hx] at ht; cases ht
  | some t => exact .inr ((hf x (τ.enc t)).2 ⟨t, hx, rfl⟩)
theorem Hs.mput (st : Hs fr G As h) (k : Nat) (hk : As[k]? = some (mp b κ τ f)) {x : Int} {v : τ.T} {K : HP}
    (hK : ∀ h', Hs fr G (As.set k (mp b κ τ (fun y => if y = x then some v else f y))) h' → K h') : Sx.mput κ (.map (some b)) x (τ.enc v) K h := by
  obtain ⟨S1, ⟨eS, es, clk, hm, hf⟩, hw⟩ := st.focus k hk
  subst eS
  refine ⟨b, es, clk, rfl, hm, fun es' clk' hm' hkv => hK _ ?_⟩
  refine hw (mp b κ τ (fun y => if y = x then some v else f y)) [b] _ ⟨by simp, fun b' hb hn => ?_⟩ ⟨rfl, es', clk', hm', fun y u => ?_⟩ fun b' hb => .inl hb
  · rw [Array.getElem?_setIfInBounds, if_neg (fun e => hn (by simp [e]))]
  · rw [hkv]
    by_cases hy : y = x
    · subst hy
      simp
    · simp [hy, hf]
theorem Hs.mkm (st : Hs fr G As h) (κ : IntKind) (τ : Ty) {K : Nat → HP} (hK : ∀ b h', Hs fr G (As ++ [mp b κ τ (fun _ => none)]) h' → K b h') : Sx.mkm K h := by
  refine hK h.size _ (st.new ((Ext.refl' [] h).push _) ⟨[h.size], ⟨rfl, #[], 0, ⟨by rw [Array.getElem?_push]; simp, by simp, by simp⟩, fun y u => ?_⟩, by simp⟩)
  simp [hasKV]
end
end Go.Sx
