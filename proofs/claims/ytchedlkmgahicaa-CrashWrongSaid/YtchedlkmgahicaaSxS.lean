/-
  What is owned and what is frozen: one statement about the heap that a walk carries along. Nothing here names a program.
-/
import Derived.Test.YtchedlkmgahicaaSxH
set_option linter.unusedVariables false
namespace Go.Sx
open Go

structure Asn where
  P : List Nat → Heap → Prop
  loc : ∀ {S h h'}, P S h → h.size ≤ h'.size → (∀ b ∈ S, h'[b]? = h[b]?) → P S h'
  cel : ∀ {S h}, P S h → ∀ b ∈ S, isCells h b

def At (h : Heap) (A : Asn) : Prop := ∃ S, A.P S h
def New (n : Nat) (h : Heap) (A : Asn) : Prop := ∃ S, A.P S h ∧ ∀ b ∈ S, n ≤ b

def Sep : List Asn → List Nat → Heap → Prop
  | [], S, _ => S = []
  | A :: As, S, h => ∃ S1 S2, S = S1 ++ S2 ∧ (∀ b ∈ S1, b ∉ S2) ∧ A.P S1 h ∧ Sep As S2 h

abbrev Fr := List (List Nat × Heap)

def FrOk (fr : Fr) (S : List Nat) (h : Heap) : Prop := ∀ p ∈ fr, Ext p.1 p.2 h ∧ ∀ b ∈ S, b ∈ p.1 ∨ p.2.size ≤ b
def FzOk (G : List Asn) (S : List Nat) (h : Heap) : Prop := ∀ A ∈ G, ∃ S1, A.P S1 h ∧ ∀ b ∈ S1, b ∉ S

def Hs (fr : Fr) (G As : List Asn) (h : Heap) : Prop := ∃ S, Sep As S h ∧ FzOk G S h ∧ FrOk fr S h

theorem Sep.cel : ∀ {As : List Asn} {S : List Nat} {h : Heap}, Sep As S h → ∀ b ∈ S, isCells h b
  | [], S, h, e, b, hb => by cases e; cases hb
  | A :: As, S, h, ⟨S1, S2, e, _, hA, hs⟩, b, hb => by
    subst e
    rcases List.mem_append.1 hb with hb | hb
    · exact A.cel hA b hb
    · exact Sep.cel hs b hb

theorem Sep.keep : ∀ {As : List Asn} {S : List Nat} {h h' : Heap}, Sep As S h → h.size ≤ h'.size → (∀ b ∈ S, h'[b]? = h[b]?) → Sep As S h'
  | [], S, h, h', e, _, _ => e
  | A :: As, S, h, h', ⟨S1, S2, e, hd, hA, hs⟩, hz, hk => by
    subst e
    exact ⟨S1, S2, rfl, hd, A.loc hA hz fun b hb => hk b (List.mem_append_left _ hb), Sep.keep hs hz fun b hb => hk b (List.mem_append_right _ hb)⟩

theorem Sep.append : ∀ {As Bs : List Asn} {S T : List Nat} {h : Heap}, Sep As S h → Sep Bs T h → (∀ b ∈ S, b ∉ T) → Sep (As ++ Bs) (S ++ T) h
  | [], Bs, S, T, h, e, ht, _ => by cases e; exact ht
  | A :: As, Bs, S, T, h, ⟨S1, S2, e, hd, hA, hs⟩, ht, hdj => by
    subst e
    refine ⟨S1, S2 ++ T, by simp, fun b hb hin => ?_, hA, Sep.append hs ht fun b hb => hdj b (List.mem_append_right _ hb)⟩
    rcases List.mem_append.1 hin with k | k
    · exact hd b hb k
    · exact hdj b (List.mem_append_left _ hb) k

theorem Sep.focus : ∀ {As : List Asn} {S : List Nat} {h : Heap} (k : Nat) {A : Asn}, Sep As S h → As[k]? = some A →
    ∃ S1 S2, (∀ b, b ∈ S ↔ b ∈ S1 ∨ b ∈ S2) ∧ (∀ b ∈ S1, b ∉ S2) ∧ A.P S1 h ∧ Sep (As.eraseIdx k) S2 h ∧
      ∀ (A' : Asn) S1' h', Sep (As.eraseIdx k) S2 h' → A'.P S1' h' → (∀ b ∈ S1', b ∉ S2) → ∃ S', (∀ b, b ∈ S' ↔ b ∈ S1' ∨ b ∈ S2) ∧ Sep (As.set k A') S' h'
  | A :: As, S, h, 0, B, ⟨S1, S2, e, hd, hA, hs⟩, ek => by
    simp at ek; subst ek; subst e
    refine ⟨S1, S2, fun b => by simp, hd, hA, hs, fun A' S1' h' hs' hA' hd' => ⟨S1' ++ S2, fun b => by simp, S1', S2, rfl, hd', hA', hs'⟩⟩
  | A :: As, S, h, k + 1, B, ⟨S1, S2, e, hd, hA, hs⟩, ek => by
    subst e
    obtain ⟨T1, T2, hm, hd2, hB, hr, hw⟩ := Sep.focus k hs (by simpa using ek)
    refine ⟨T1, S1 ++ T2, fun b => ?_, fun b hb hin => ?_, hB, ?_, fun A' S1' h' hs' hA' hd' => ?_⟩
    · simp only [List.mem_append, hm]
      constructor
      · rintro (h | h | h)
        · exact .inr (.inl h)
        · exact .inl h
        · exact .inr (.inr h)
      · rintro (h | h | h)
        · exact .inr (.inl h)
        · exact .inl h
        · exact .inr (.inr h)
    · rcases List.mem_append.1 hin with h | h
      · exact hd b h ((hm b).2 (.inl hb))
      · exact hd2 b hb h
    · exact ⟨S1, T2, rfl, fun b hb hin => hd b hb ((hm b).2 (.inr hin)), hA, hr⟩
    · obtain ⟨U1, U2, eU, hdU, hAU, hrU⟩ := hs'
      -- the first one's blocks and those of the rest: any split of the list will do
      have key : ∃ S', (∀ b, b ∈ S' ↔ b ∈ S1' ∨ b ∈ S1 ++ T2) ∧ Sep (A :: As.set k A') S' h' := by
        have e2 : As.eraseIdx k = As.eraseIdx k := rfl
        obtain ⟨V, hV, hsV⟩ := sepSet k hrU hA' (fun b hb hin => hd' b hb (by rw [eU]; exact List.mem_append_right _ hin)) (by
          have := List.getElem?_eq_some_iff.1 (show As[k]? = some B by simpa using ek)
          exact this.1)
        refine ⟨U1 ++ V, fun b => ?_, U1, V, rfl, fun b hb hin => ?_, hAU, hsV⟩
        · rw [eU]
          simp only [List.mem_append, hV]
          constructor
          · rintro (h | h | h)
            · exact .inr (.inl h)
            · exact .inl h
            · exact .inr (.inr h)
          · rintro (h | h | h)
            · exact .inr (.inl h)
            · exact .inl h
            · exact .inr (.inr h)
        · rcases (hV b).1 hin with h | h
          · exact hd' b h (by rw [eU]; exact List.mem_append_left _ hb)
          · exact hdU b hb h
      exact key
where
  sepSet : ∀ {As : List Asn} {U : List Nat} {h' : Heap} {A' : Asn} {S1' : List Nat} (k : Nat), Sep (As.eraseIdx k) U h' → A'.P S1' h' → (∀ b ∈ S1', b ∉ U) → k < As.length →
      ∃ V, (∀ b, b ∈ V ↔ b ∈ S1' ∨ b ∈ U) ∧ Sep (As.set k A') V h'
    | A :: As, U, h', A', S1', 0, hs, hA', hd, _ => ⟨S1' ++ U, fun b => by simp, S1', U, rfl, hd, hA', hs⟩
    | A :: As, U, h', A', S1', k + 1, ⟨U1, U2, eU, hdU, hA, hs⟩, hA', hd, hk => by
      subst eU
      obtain ⟨V, hV, hsV⟩ := sepSet k hs hA' (fun b hb hin => hd b hb (List.mem_append_right _ hin)) (by simpa using hk)
      refine ⟨U1 ++ V, fun b => ?_, U1, V, rfl, fun b hb hin => ?_, hA, hsV⟩
      · simp only [List.mem_append, hV]
        constructor
        · rintro (h | h | h)
          · exact .inr (.inl h)
          · exact .inl h
          · exact .inr (.inr h)
        · rintro (h | h | h)
          · exact .inr (.inl h)
          · exact .inl h
          · exact .inr (.inr h)
      · rcases (hV b).1 hin with h | h
        · exact hd b h (List.mem_append_left _ hb)
        · exact hdU b hb h

section st
variable {fr : Fr} {G As : List Asn} {h h' : Heap} {A : Asn}

theorem Ext.refl' (S : List Nat) (h : Heap) : Ext S h h := ⟨Nat.le_refl _, fun _ _ _ => rfl⟩

theorem At.lt {S : List Nat} (hA : A.P S h) : ∀ b ∈ S, b < h.size := fun b hb => (A.cel hA b hb).lt

theorem Asn.ext {S T : List Nat} (hA : A.P S h) (x : Ext T h h') (hd : ∀ b ∈ S, b ∉ T) : A.P S h' :=
  A.loc hA x.1 fun b hb => x.2 b (At.lt hA b hb) (hd b hb)

theorem At.ext (hA : At h A) (x : Ext [] h h') : At h' A := let ⟨S, p⟩ := hA; ⟨S, Asn.ext p x (by simp)⟩
theorem New.at {n : Nat} (hA : New n h A) : At h A := let ⟨S, p, _⟩ := hA; ⟨S, p⟩
theorem New.ext {n : Nat} (hA : New n h A) (x : Ext [] h h') : New n h' A := let ⟨S, p, q⟩ := hA; ⟨S, Asn.ext p x (by simp), q⟩
theorem New.mono {n m : Nat} (hA : New n h A) (hn : m ≤ n) : New m h A := let ⟨S, p, q⟩ := hA; ⟨S, p, fun b hb => Nat.le_trans hn (q b hb)⟩

theorem Hs.start (h : Heap) : ∀ G : List Asn, (∀ A ∈ G, At h A) → Hs [([], h)] G [] h :=
  fun G hG => ⟨[], rfl, fun A hA => let ⟨S, p⟩ := hG A hA; ⟨S, p, fun _ _ h => by cases h⟩, fun p hp => by simp at hp; subst hp; exact ⟨Ext.refl' _ _, fun b hb => by cases hb⟩⟩

theorem Hs.frame {h0 : Heap} (st : Hs fr G As h) (hm : ([], h0) ∈ fr) : Ext [] h0 h := by
  obtain ⟨S, _, _, hf⟩ := st
  exact (hf _ hm).1

theorem FzOk.ext {S T : List Nat} (hz : FzOk G S h) (x : Ext T h h') (hT : ∀ b ∈ T, b ∈ S) : FzOk G S h' :=
  fun A hA => let ⟨S1, p, d⟩ := hz A hA; ⟨S1, Asn.ext p x (fun b hb hin => d b hb (hT b hin)), d⟩
theorem FzOk.mono {S S' : List Nat} (hz : FzOk G S h) (hS : ∀ b ∈ S', b ∈ S ∨ h.size ≤ b) : FzOk G S' h :=
  fun A hA => let ⟨S1, p, d⟩ := hz A hA; ⟨S1, p, fun b hb hin => (hS b hin).elim (d b hb) (fun k => by have := At.lt p b hb; omega)⟩
theorem FrOk.ext {S T : List Nat} (hf : FrOk fr S h) (x : Ext T h h') (hT : ∀ b ∈ T, b ∈ S) : FrOk fr S h' :=
  fun p hp => ⟨(hf p hp).1.trans x fun b hb => (hf p hp).2 b (hT b hb), (hf p hp).2⟩
theorem FrOk.mono {S S' : List Nat} (hf : FrOk fr S h) (hS : ∀ b ∈ S', b ∈ S ∨ h.size ≤ b) : FrOk fr S' h :=
  fun p hp => ⟨(hf p hp).1, fun b hb => (hS b hb).elim ((hf p hp).2 b) (fun k => .inr (Nat.le_trans (hf p hp).1.1 k))⟩

theorem Hs.focus (st : Hs fr G As h) (k : Nat) (hk : As[k]? = some A) :
    ∃ S1, A.P S1 h ∧ ∀ (A' : Asn) S1' h', Ext S1 h h' → A'.P S1' h' → (∀ b ∈ S1', b ∈ S1 ∨ h.size ≤ b) → Hs fr G (As.set k A') h' := by
  obtain ⟨S, hs, hz, hf⟩ := st
  obtain ⟨S1, S2, hm, hd, hA, hr, hw⟩ := hs.focus k hk
  refine ⟨S1, hA, fun A' S1' h' x hA' hS => ?_⟩
  have hlt2 : ∀ b ∈ S2, b < h.size := fun b hb => (hr.cel b hb).lt
  have hr' : Sep (As.eraseIdx k) S2 h' := hr.keep x.1 fun b hb => x.2 b (hlt2 b hb) (fun hin => hd b hin hb)
  obtain ⟨S', hm', hs'⟩ := hw A' S1' h' hr' hA' (fun b hb hin => (hS b hb).elim (fun k => hd b k hin) (fun k => by have := hlt2 b hin; omega))
  have hSS : ∀ b ∈ S', b ∈ S ∨ h.size ≤ b := fun b hb => by
    rcases (hm' b).1 hb with k | k
    · exact (hS b k).imp (fun k => (hm b).2 (.inl k)) id
    · exact .inl ((hm b).2 (.inr k))
  refine ⟨S', hs', fun B hB => ?_, fun p hp => ?_⟩
  · obtain ⟨SB, pB, dB⟩ := hz B hB
    refine ⟨SB, Asn.ext pB x (fun b hb hin => dB b hb ((hm b).2 (.inl hin))), fun b hb hin => ?_⟩
    rcases hSS b hin with k | k
    · exact dB b hb k
    · have := At.lt pB b hb; omega
  · obtain ⟨e, hb⟩ := hf p hp
    refine ⟨e.trans x fun b hb' => hb b ((hm b).2 (.inl hb')), fun b hb' => ?_⟩
    rcases hSS b hb' with k | k
    · exact hb b k
    · exact .inr (Nat.le_trans e.1 k)

theorem Hs.own (st : Hs fr G As h) (k : Nat) (hk : As[k]? = some A) : At h A := let ⟨S1, p, _⟩ := st.focus k hk; ⟨S1, p⟩
theorem Hs.fz (st : Hs fr G As h) (k : Nat) (hk : G[k]? = some A) : At h A := by
  obtain ⟨S, _, hz, _⟩ := st
  obtain ⟨S1, p, _⟩ := hz A (List.mem_of_getElem? hk)
  exact ⟨S1, p⟩

theorem Hs.ext (st : Hs fr G As h) (x : Ext [] h h') : Hs fr G As h' := by
  obtain ⟨S, hs, hz, hf⟩ := st
  refine ⟨S, hs.keep x.1 fun b hb => x.2 b (hs.cel b hb).lt (by simp), hz.ext x (by simp), hf.ext x (by simp)⟩

theorem Hs.new (st : Hs fr G As h) (x : Ext [] h h') (hn : New h.size h' A) : Hs fr G (As ++ [A]) h' := by
  obtain ⟨S, hs, hz, hf⟩ := st
  obtain ⟨SA, hA, hge⟩ := hn
  have hlt : ∀ b ∈ S, b < h.size := fun b hb => (hs.cel b hb).lt
  have hs' : Sep As S h' := hs.keep x.1 fun b hb => x.2 b (hlt b hb) (by simp)
  have hdj : ∀ b ∈ S, b ∉ SA := fun b hb hin => by have := hlt b hb; have := hge b hin; omega
  have hsA : Sep [A] SA h' := ⟨SA, [], by simp, by simp, hA, rfl⟩
  have hSS : ∀ b ∈ S ++ SA, b ∈ S ∨ h.size ≤ b := fun b hb => (List.mem_append.1 hb).imp id (hge b)
  exact ⟨S ++ SA, hs'.append hsA hdj, (hz.mono hSS).ext x (by simp), (hf.mono hSS).ext x (by simp)⟩

theorem Hs.freeze (st : Hs fr G As h) (k : Nat) (hk : As[k]? = some A) : Hs fr (G ++ [A]) (As.eraseIdx k) h := by
  obtain ⟨S, hs, hz, hf⟩ := st
  obtain ⟨S1, S2, hm, hd, hA, hr, _⟩ := hs.focus k hk
  refine ⟨S2, hr, fun B hB => ?_, fun p hp => ⟨(hf p hp).1, fun b hb => (hf p hp).2 b ((hm b).2 (.inr hb))⟩⟩
  rcases List.mem_append.1 hB with hB | hB
  · obtain ⟨SB, pB, dB⟩ := hz B hB
    exact ⟨SB, pB, fun b hb hin => dB b hb ((hm b).2 (.inr hin))⟩
  · simp at hB; subst hB
    exact ⟨S1, hA, hd⟩

theorem Hs.drop (st : Hs fr G As h) (k : Nat) {A : Asn} (hk : As[k]? = some A) : Hs fr G (As.eraseIdx k) h := by
  obtain ⟨S, hs, hz, hf⟩ := st.freeze k hk
  exact ⟨S, hs, fun B hB => hz B (List.mem_append_left _ hB), hf⟩

theorem Hs.imp (st : Hs fr G As h) (k : Nat) {A A' : Asn} (hk : As[k]? = some A) (hA : ∀ S h, A.P S h → A'.P S h) : Hs fr G (As.set k A') h := by
  obtain ⟨S1, p, hw⟩ := st.focus k hk
  exact hw A' S1 h (Ext.refl' _ _) (hA _ _ p) fun b hb => .inl hb

theorem Marked.keepC {n : Nat} (hm : Marked n h h') : ∀ b, isCells h b → h'[b]? = h[b]? := by
  intro b hc
  rw [hm.2 b (.inr fun ds e' => hc.ne_deferred e')]

theorem Hs.marked {h0 : Heap} {M : List Nat} (st : Hs [(M, h0)] G As h) (hm : Marked h0.size h h') : Hs [(M, h0)] G As h' := by
  obtain ⟨S, hs, hz, hf⟩ := st
  refine ⟨S, hs.keep (by rw [hm.1]; exact Nat.le_refl _) fun b hb => Marked.keepC hm b (hs.cel b hb), fun A hA => ?_, fun p hp => ?_⟩
  · obtain ⟨S1, p, d⟩ := hz A hA
    exact ⟨S1, A.loc p (by rw [hm.1]; exact Nat.le_refl _) fun b hb => Marked.keepC hm b (A.cel p b hb), d⟩
  · simp at hp; subst hp
    have := hf (M, h0) (by simp)
    exact ⟨this.1.marked hm, this.2⟩

end st
end Go.Sx
