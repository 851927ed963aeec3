/-
  Slices of slices, that are read. Nothing here names a program.
-/
import Derived.Test.YtchedlkmgahicaaSxT
import Derived.Test.YtchedlkmgahicaaSxW2
set_option linter.unusedVariables false
namespace Go.Sx
open Go

def Inner {β : Type} (I : β → Sl → Asn) : List β → List Sl → List Nat → Heap → Prop
  | [], [], S, _ => S = []
  | x :: xs, p :: ps, S, h => ∃ S1 S2, S = S1 ++ S2 ∧ (I x p).P S1 h ∧ Inner I xs ps S2 h
  | _, _, _, _ => False

section
variable {β : Type} {I : β → Sl → Asn}

theorem Inner.loc : ∀ {xs : List β} {ps : List Sl} {S : List Nat} {h h' : Heap}, Inner I xs ps S h → h.size ≤ h'.size → (∀ b ∈ S, h'[b]? = h[b]?) → Inner I xs ps S h'
  | [], [], _, _, _, e, _, _ => e
  | x :: xs, p :: ps, S, h, h', ⟨S1, S2, e, hp, hi⟩, hz, hk => by
    subst e
    exact ⟨S1, S2, rfl, (I x p).loc hp hz fun b hb => hk b (List.mem_append_left _ hb), Inner.loc hi hz fun b hb => hk b (List.mem_append_right _ hb)⟩
  | [], _ :: _, _, _, _, e, _, _ => e.elim
  | _ :: _, [], _, _, _, e, _, _ => e.elim
theorem Inner.cel : ∀ {xs : List β} {ps : List Sl} {S : List Nat} {h : Heap}, Inner I xs ps S h → ∀ b ∈ S, isCells h b
  | [], [], _, _, e, b, hb => by cases e; cases hb
  | x :: xs, p :: ps, S, h, ⟨S1, S2, e, hp, hi⟩, b, hb => by
    subst e
    rcases List.mem_append.1 hb with hb | hb
    · exact (I x p).cel hp b hb
    · exact Inner.cel hi b hb
  | [], _ :: _, _, _, e, _, _ => e.elim
  | _ :: _, [], _, _, e, _, _ => e.elim

def rsg (I : β → Sl → Asn) (xs : List β) (s : Sl) : Asn where
  P := fun S h => ∃ ps S1 S2, S = S1 ++ S2 ∧ (rsl Ty.sl.enc ps s).P S1 h ∧ Inner I xs ps S2 h
  loc := fun {S h h'} ⟨ps, S1, S2, e, hp, hi⟩ hz hk => by
    subst e
    exact ⟨ps, S1, S2, rfl, (rsl Ty.sl.enc ps s).loc hp hz fun b hb => hk b (List.mem_append_left _ hb), hi.loc hz fun b hb => hk b (List.mem_append_right _ hb)⟩
  cel := fun {S h} ⟨ps, S1, S2, e, hp, hi⟩ b hb => by
    subst e
    rcases List.mem_append.1 hb with hb | hb
    · exact (rsl Ty.sl.enc ps s).cel hp b hb
    · exact hi.cel b hb

theorem Inner.len : ∀ {xs : List β} {ps : List Sl} {S : List Nat} {h : Heap}, Inner I xs ps S h → ps.length = xs.length
  | [], [], _, _, _ => rfl
  | x :: xs, p :: ps, S, h, ⟨S1, S2, e, hp, hi⟩ => by simp [Inner.len hi]
  | [], _ :: _, _, _, e => e.elim
  | _ :: _, [], _, _, e => e.elim
theorem Inner.get : ∀ {xs : List β} {ps : List Sl} {S : List Nat} {h : Heap}, Inner I xs ps S h → ∀ i (h1 : i < xs.length) (h2 : i < ps.length), At h (I xs[i] ps[i])
  | x :: xs, p :: ps, S, h, ⟨S1, S2, e, hp, hi⟩, 0, _, _ => ⟨S1, hp⟩
  | x :: xs, p :: ps, S, h, ⟨S1, S2, e, hp, hi⟩, i + 1, h1, h2 => Inner.get hi i (Nat.lt_of_succ_lt_succ h1) (Nat.lt_of_succ_lt_succ h2)
  | [], _, _, _, _, i, h1, _ => by simp at h1
  | _, [], _, _, _, i, _, h2 => by simp at h2

theorem rsg_open {xs : List β} {s : Sl} {h : Heap} (hA : At h (rsg I xs s)) : ∃ ps, ps.length = xs.length ∧ At h (rsl Ty.sl.enc ps s) ∧ ∀ i (h1 : i < xs.length) (h2 : i < ps.length), At h (I xs[i] ps[i]) := by
  obtain ⟨S, ps, S1, S2, e, hp, hi⟩ := hA
  exact ⟨ps, hi.len, ⟨S1, hp⟩, fun i h1 h2 => hi.get i h1 h2⟩

theorem Inner.make {n : Nat} : ∀ {xs : List β} {ps : List Sl} {h : Heap}, ps.length = xs.length → (∀ i (h1 : i < xs.length) (h2 : i < ps.length), New n h (I xs[i] ps[i])) → ∃ S, Inner I xs ps S h ∧ ∀ b ∈ S, n ≤ b
  | [], [], _, _, _ => ⟨[], rfl, by simp⟩
  | x :: xs, p :: ps, h, hl, hi => by
    obtain ⟨S1, hp, g1⟩ := hi 0 (by simp) (by simp)
    obtain ⟨S2, hs, g2⟩ := Inner.make (n := n) (xs := xs) (ps := ps) (h := h) (by simpa using hl) fun i h1 h2 => hi (i + 1) (Nat.succ_lt_succ h1) (Nat.succ_lt_succ h2)
    exact ⟨S1 ++ S2, ⟨S1, S2, rfl, hp, hs⟩, fun b hb => (List.mem_append.1 hb).elim (g1 b) (g2 b)⟩
  | [], _ :: _, _, hl, _ => by simp at hl
  | _ :: _, [], _, hl, _ => by simp at hl

theorem rsg_new {n : Nat} {xs : List β} {ps : List Sl} {s : Sl} {h : Heap} (hl : ps.length = xs.length) (ho : New n h (rsl Ty.sl.enc ps s)) (hi : ∀ i (h1 : i < xs.length) (h2 : i < ps.length), New n h (I xs[i] ps[i])) : New n h (rsg I xs s) := by
  obtain ⟨S1, hp, g1⟩ := ho
  obtain ⟨S2, hs, g2⟩ := Inner.make hl hi
  exact ⟨S1 ++ S2, ⟨ps, S1, S2, rfl, hp, hs⟩, fun b hb => (List.mem_append.1 hb).elim (g1 b) (g2 b)⟩
theorem At.new0 {h : Heap} {A : Asn} (hA : At h A) : New 0 h A := let ⟨S, p⟩ := hA; ⟨S, p, fun _ _ => Nat.zero_le _⟩
theorem rsg_at {xs : List β} {ps : List Sl} {s : Sl} {h : Heap} (hl : ps.length = xs.length) (ho : At h (rsl Ty.sl.enc ps s)) (hi : ∀ i (h1 : i < xs.length) (h2 : i < ps.length), At h (I xs[i] ps[i])) : At h (rsg I xs s) :=
  (rsg_new hl ho.new0 fun i h1 h2 => (hi i h1 h2).new0).at
theorem rsg_len {xs : List β} {s : Sl} {h : Heap} (hA : At h (rsg I xs s)) : s.len = xs.length := by
  obtain ⟨ps, hl, ho, _⟩ := rsg_open hA
  rw [rsl_len ho, hl]
theorem rdG {xs : List β} {s : Sl} {h : Heap} (hA : At h (rsg I xs s)) {i : Nat} (hi : i < xs.length) {K : Sl → HP} (hK : ∀ p, At h (I xs[i] p) → K p h) : sx s.a s.len (i : Int) 1 (fun p => ldT .sl p K) h := by
  obtain ⟨ps, hl, ho, hx⟩ := rsg_open hA
  exact rd_ok (τ := .sl) ho (List.getElem?_eq_getElem (show i < ps.length by omega)) (hK _ (hx i hi (by omega)))

end
end Go.Sx

set_option linter.unusedVariables false
namespace Go.Sx
open Go

theorem Sep.move {As : List Asn} {S : List Nat} {h : Heap} {A B A' : Asn} (hs : Sep As S h) (k kc : Nat) (hk : As[k]? = some A) (hkc : As[kc]? = some B) (hne : k ≠ kc)
    (hA : ∀ S1 S2, A.P S1 h → B.P S2 h → (∀ b ∈ S1, b ∉ S2) → A'.P (S1 ++ S2) h) : ∃ S', (∀ b, b ∈ S' ↔ b ∈ S) ∧ Sep ((As.set kc emp).set k A') S' h := by
  obtain ⟨S1, S2, hm, hd, hB, hr, hw⟩ := hs.focus kc hkc
  obtain ⟨S', hm', hs'⟩ := hw emp [] h hr rfl (by simp)
  obtain ⟨T1, T2, hmT, hdT, hA1, hrT, hwT⟩ := hs'.focus k (A := A) (by rw [List.getElem?_set, if_neg (fun e => hne e.symm)]; exact hk)
  have hsub : ∀ b, b ∈ T1 ∨ b ∈ T2 → b ∈ S2 := fun b hb => by
    have := (hm' b).1 ((hmT b).2 hb)
    rcases this with h | h
    · cases h
    · exact h
  obtain ⟨S'', hm'', hs''⟩ := hwT A' (T1 ++ S1) h hrT (hA T1 S1 hA1 hB fun b hb hin => hd b hin (hsub b (.inl hb))) fun b hb hin => by
    rcases List.mem_append.1 hb with hb | hb
    · exact hdT b hb hin
    · exact hd b hb (hsub b (.inr hin))
  refine ⟨S'', fun b => ?_, hs''⟩
  rw [hm'', List.mem_append, hm]
  have e : b ∈ S2 ↔ b ∈ T1 ∨ b ∈ T2 := by
    rw [← hmT, hm']
    constructor
    · exact .inr
    · rintro (h | h)
      · cases h
      · exact h
  rw [e]
  constructor
  · rintro ((h | h) | h)
    · exact .inr (.inl h)
    · exact .inl h
    · exact .inr (.inr h)
  · rintro (h | h | h)
    · exact .inl (.inr h)
    · exact .inl (.inl h)
    · exact .inr h

section
variable {fr : Fr} {G As : List Asn} {h h' : Heap} {A B A' : Asn} {β : Type} {I : β → Sl → Asn} {t : TypeId} {xs : List β} {s : Sl} {b : Nat}

theorem Hs.move (st : Hs fr G As h) (k kc : Nat) (hk : As[k]? = some A) (hkc : As[kc]? = some B) (hne : k ≠ kc) (hA : ∀ S1 S2, A.P S1 h → B.P S2 h → (∀ b ∈ S1, b ∉ S2) → A'.P (S1 ++ S2) h) : Hs fr G ((As.set kc emp).set k A') h := by
  obtain ⟨S, hs, hz, hf⟩ := st
  obtain ⟨S', hm, hs'⟩ := hs.move k kc hk hkc hne hA
  exact ⟨S', hs', hz.mono fun b hb => .inl ((hm b).1 hb), hf.mono fun b hb => .inl ((hm b).1 hb)⟩

def osp (I : β → Sl → Asn) (t : TypeId) (xs : List β) (qs : List Sl) (s : Sl) : Asn where
  P := fun S h => ∃ ps S1 S2, S = S1 ++ S2 ∧ (∀ b ∈ S1, b ∉ S2) ∧ (osl t Ty.sl.enc (ps ++ qs) s).P S1 h ∧ Inner I xs ps S2 h
  loc := fun {S h h'} ⟨ps, S1, S2, e, hd, hp, hi⟩ hz hk => by
    subst e
    exact ⟨ps, S1, S2, rfl, hd, (osl t Ty.sl.enc (ps ++ qs) s).loc hp hz fun b hb => hk b (List.mem_append_left _ hb), hi.loc hz fun b hb => hk b (List.mem_append_right _ hb)⟩
  cel := fun {S h} ⟨ps, S1, S2, e, hd, hp, hi⟩ b hb => by
    subst e
    rcases List.mem_append.1 hb with hb | hb
    · exact (osl t Ty.sl.enc (ps ++ qs) s).cel hp b hb
    · exact hi.cel b hb
abbrev osg (I : β → Sl → Asn) (t : TypeId) (xs : List β) (s : Sl) : Asn := osp I t xs [] s

theorem Inner.snoc : ∀ {xs : List β} {ps : List Sl} {S S2 : List Nat} {h : Heap} {x : β} {p : Sl}, Inner I xs ps S h → (I x p).P S2 h → Inner I (xs ++ [x]) (ps ++ [p]) (S ++ S2) h
  | [], [], S, S2, h, x, p, e, hp => by cases e; exact ⟨S2, [], by simp, hp, rfl⟩
  | y :: ys, q :: qs, S, S2, h, x, p, ⟨T1, T2, e, hq, hi⟩, hp => by subst e; exact ⟨T1, T2 ++ S2, by simp, hq, Inner.snoc hi hp⟩
  | [], _ :: _, _, _, _, _, _, e, _ => e.elim
  | _ :: _, [], _, _, _, _, _, e, _ => e.elim

theorem osg_rsg {S : List Nat} (p : (osg I t xs s).P S h) : (rsg I xs s).P S h := by
  obtain ⟨ps, S1, S2, e, hd, hp, hi⟩ := p
  rw [List.append_nil] at hp
  exact ⟨ps, S1, S2, e, osl_rsl hp, hi⟩
theorem At.rsg (hA : At h (osg I t xs s)) : At h (rsg I xs s) := let ⟨S, p⟩ := hA; ⟨S, osg_rsg p⟩
theorem New.rsg {n : Nat} (hA : New n h (osg I t xs s)) : New n h (rsg I xs s) := let ⟨S, p, q⟩ := hA; ⟨S, osg_rsg p, q⟩
theorem osg_nil {a : Option Addr} (n : Nat) (h : Heap) : New n h (osg I t ([] : List β) ⟨a, 0, 0⟩) := ⟨[], ⟨[], [], [], rfl, by simp, .inr ⟨rfl, rfl, rfl, rfl⟩, rfl⟩, by simp⟩
theorem Hs.nilg (st : Hs fr G As h) (I : β → Sl → Asn) (t : TypeId) (a : Option Addr) : Hs fr G (As ++ [osg I t ([] : List β) ⟨a, 0, 0⟩]) h := st.new (Ext.refl' _ _) (osg_nil _ _)

def inn (I : β → Sl → Asn) (xs : List β) (ps : List Sl) : Asn where
  P := fun S h => Inner I xs ps S h
  loc := fun p hz hk => Inner.loc p hz hk
  cel := fun p => Inner.cel p

theorem Hs.split {ι : Type} {A1 A2 : ι → Asn} (st : Hs fr G As h) (k : Nat) (hk : As[k]? = some A) (hA : ∀ S, A.P S h → ∃ i S1 S2, S = S1 ++ S2 ∧ (∀ b ∈ S1, b ∉ S2) ∧ (A1 i).P S1 h ∧ (A2 i).P S2 h) : ∃ i, Hs fr G (As.set k (A1 i) ++ [A2 i]) h := by
  obtain ⟨S, hs, hz, hf⟩ := st
  obtain ⟨S1, S2, hm, hd, hA1, hr, hw⟩ := hs.focus k hk
  obtain ⟨i, T1, T2, e, hdT, p1, p2⟩ := hA S1 hA1
  subst e
  obtain ⟨S', hm', hs'⟩ := hw (A1 i) T1 h hr p1 fun b hb => hd b (List.mem_append_left _ hb)
  have hs2 : Sep [A2 i] T2 h := ⟨T2, [], by simp, by simp, p2, rfl⟩
  have hdj : ∀ b ∈ S', b ∉ T2 := fun b hb hin => by
    rcases (hm' b).1 hb with h | h
    · exact hdT b h hin
    · exact hd b (List.mem_append_right _ hin) h
  have hsub : ∀ b ∈ S' ++ T2, b ∈ S := fun b hb => by
    rcases List.mem_append.1 hb with hb | hb
    · rcases (hm' b).1 hb with h | h
      · exact (hm b).2 (.inl (List.mem_append_left _ h))
      · exact (hm b).2 (.inr h)
    · exact (hm b).2 (.inl (List.mem_append_right _ hb))
  exact ⟨i, S' ++ T2, hs'.append hs2 hdj, hz.mono fun b hb => .inl (hsub b hb), hf.mono fun b hb => .inl (hsub b hb)⟩

theorem Hs.apdG {x : β} {p : Sl} {by_ : Nat} {z : Array Value} {K : Sl → HP} (st : Hs fr G As h) (k kx kc : Nat) (hk : As[k]? = some (osg I t xs s)) (hkx : As[kx]? = some (cl b t [.slice p.a p.len p.cap])) (hkc : As[kc]? = some (I x p))
    (hne : k ≠ kx) (hnc : k ≠ kc) (hlen : (xs.length + 1) * by_ ≤ 140737488355328) (hby : 0 < by_) (hz : z.size = 1)
    (hK : ∀ s' h', Hs fr G ((As.set k (osg I t (xs ++ [x]) s')).set kc emp) h' → K s' h') : Sx.apd t 1 by_ z s ⟨some ⟨b, 0, none⟩, 1, 1⟩ K h := by
  have hkl := (List.getElem?_eq_some_iff.1 hk).1
  have hkxl := (List.getElem?_eq_some_iff.1 hkx).1
  have hkcl := (List.getElem?_eq_some_iff.1 hkc).1
  obtain ⟨⟨ps, hl⟩, st⟩ := st.split (ι := { ps : List Sl // ps.length = xs.length }) (A1 := fun i => osl t Ty.sl.enc i.1 s) (A2 := fun i => inn I xs i.1) k hk fun S ⟨ps, S1, S2, e, hd, hp, hi⟩ => ⟨⟨ps, hi.len⟩, S1, S2, e, hd, by rw [List.append_nil] at hp; exact hp, hi⟩
  simp only at st
  refine st.apd (enc := Ty.sl.enc) (v := p) k kx (by rw [List.getElem?_append_left (by simpa using hkl), List.getElem?_set, if_pos rfl, if_pos hkl]) (by rw [List.getElem?_append_left (by simpa using hkxl), List.getElem?_set, if_neg hne]; exact hkx) hne rfl (by rw [hl]; exact hlen) hby hz fun s' h' st => ?_
  have st := st.move (A' := osp I t xs [p] s') k As.length (A := osl t Ty.sl.enc (ps ++ [p]) s') (B := inn I xs ps) (by rw [List.getElem?_set, if_pos rfl, if_pos (by simp; omega)]) (by
      rw [List.getElem?_set, if_neg (by omega), List.getElem?_append_right (by simp)]; simp) (by omega) fun S1 S2 h1 h2 hd => ⟨ps, S1, S2, rfl, hd, h1, h2⟩
  have st := st.drop As.length (A := emp) (by
      rw [List.getElem?_set, if_neg (by omega), List.getElem?_set, if_pos rfl, if_pos (by simp)])
  have e1 : (((((As.set k (osl t Ty.sl.enc ps s) ++ [inn I xs ps]).set k (osl t Ty.sl.enc (ps ++ [p]) s')).set As.length emp).set k (osp I t xs [p] s')).eraseIdx As.length) = As.set k (osp I t xs [p] s') := by
    rw [List.set_append_left _ _ (by simpa using hkl), List.set_append_right _ _ (by simp), List.set_append_left _ _ (by simpa using hkl), List.eraseIdx_append_of_length_le (by simp)]
    simp
  rw [e1] at st
  have st := st.move (A' := osg I t (xs ++ [x]) s') k kc (A := osp I t xs [p] s') (B := I x p) (by rw [List.getElem?_set, if_pos rfl, if_pos hkl]) (by rw [List.getElem?_set, if_neg hnc]; exact hkc) hnc fun S1 S2 h1 h2 hd => by
    obtain ⟨ps, T1, T2, e, hdT, hp, hi⟩ := h1
    subst e
    refine ⟨ps ++ [p], T1, T2 ++ S2, by simp, fun b hb hin => ?_, by rw [List.append_nil]; exact hp, hi.snoc h2⟩
    rcases List.mem_append.1 hin with hin | hin
    · exact hdT b hb hin
    · exact hd b (List.mem_append_left _ hb) hin
  rw [List.set_comm _ _ (fun e => hnc e.symm), List.set_set] at st
  exact hK s' h' st

end
end Go.Sx
