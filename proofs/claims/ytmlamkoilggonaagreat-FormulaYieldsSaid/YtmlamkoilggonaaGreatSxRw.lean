/-
  The rows of a slice of slices, written over: what stands in them is of no more account, only how many. Nothing here names a program.
-/
import Derived.Test.YtmlamkoilggonaaGreatSxSg
set_option linter.unusedVariables false
namespace Go.Sx
open Go

section
variable {fr : Fr} {G As : List Asn} {h : Heap} {τ : Ty} {t : TypeId}

/-- A slice of one's own, of so many. -/
def lnA (t : TypeId) (τ : Ty) (n : Nat) (p : Sl) : Asn where
  P := fun S h => ∃ xs : List τ.T, xs.length = n ∧ (osl t τ.enc xs p).P S h
  loc := fun {S h h'} ⟨xs, e, q⟩ hz hk => ⟨xs, e, (osl t τ.enc xs p).loc q hz hk⟩
  cel := fun {S h} ⟨xs, e, q⟩ b hb => (osl t τ.enc xs p).cel q b hb

theorem lnA_set {n : Nat} {p : Sl} {S : List Nat} (hp : (lnA t τ n p).P S h) (b i : Nat) (v : τ.T) : (lnA t τ n p).P S (setC h ⟨b, i, none⟩ (τ.enc v)) := by
  obtain ⟨xs, e, q⟩ := hp
  rcases q with ⟨b2, rest, eS, es, hb⟩ | ⟨eS, ex, q⟩
  · by_cases hbb : b2 = b
    · subst hbb
      have hb2 := hb.set i (τ.enc v)
      by_cases hi : i < xs.length
      · refine ⟨xs.set i v, by simpa using e, .inl ⟨b2, rest, eS, by simpa using es, ?_⟩⟩
        rw [List.set_append_left _ _ (by simpa using hi)] at hb2
        simpa using hb2
      · refine ⟨xs, e, .inl ⟨b2, rest.set (i - xs.length) (τ.enc v), eS, by simpa using es, ?_⟩⟩
        rw [List.set_append_right _ _ (by simp; omega)] at hb2
        simpa using hb2
    · refine ⟨xs, e, .inl ⟨b2, rest, eS, es, hb.set_ne _ (by simpa using hbb)⟩⟩
  · exact ⟨xs, e, .inr ⟨eS, ex, q⟩⟩
theorem Inner.set_ln (b i : Nat) (v : τ.T) : ∀ {ns : List Nat} {ps : List Sl} {S : List Nat}, Inner (lnA t τ) ns ps S h → Inner (lnA t τ) ns ps S (setC h ⟨b, i, none⟩ (τ.enc v))
  | [], [], _, e => e
  | n :: ns, p :: ps, S, ⟨S1, S2, e, hp, hi⟩ => ⟨S1, S2, e, lnA_set hp b i v, Inner.set_ln b i v hi⟩
  | [], _ :: _, _, e => e.elim
  | _ :: _, [], _, e => e.elim
theorem Inner.getS {β : Type} {I : β → Sl → Asn} : ∀ {xs : List β} {ps : List Sl} {S : List Nat} {h : Heap}, Inner I xs ps S h → ∀ i (h1 : i < xs.length) (h2 : i < ps.length), ∃ S', (I xs[i] ps[i]).P S' h ∧ ∀ b ∈ S', b ∈ S
  | x :: xs, p :: ps, S, h, ⟨S1, S2, e, hp, hi⟩, 0, _, _ => ⟨S1, hp, fun b hb => by rw [e]; exact List.mem_append_left _ hb⟩
  | x :: xs, p :: ps, S, h, ⟨S1, S2, e, hp, hi⟩, i + 1, h1, h2 => by
    obtain ⟨S', a, c⟩ := Inner.getS hi i (Nat.lt_of_succ_lt_succ h1) (Nat.lt_of_succ_lt_succ h2)
    exact ⟨S', a, fun b hb => by rw [e]; exact List.mem_append_right _ (c b hb)⟩
  | [], _, _, _, _, i, h1, _ => by simp at h1
  | _, [], _, _, _, i, _, h2 => by simp at h2

theorem Inner.insert_in {β : Type} {I : β → Sl → Asn} {h : Heap} {x : β} {p : Sl} {S2 : List Nat} (hp : (I x p).P S2 h) : ∀ {n : Nat} {xs : List β} {ps : List Sl} {S : List Nat}, Inner I xs ps S h → ∃ S', Inner I (xs.take n ++ x :: xs.drop n) (ps.take n ++ p :: ps.drop n) S' h ∧ ∀ b ∈ S', b ∈ S ∨ b ∈ S2
  | 0, xs, ps, S, hi => ⟨S2 ++ S, ⟨S2, S, rfl, hp, hi⟩, fun b hb => (List.mem_append.1 hb).symm⟩
  | n + 1, [], [], S, hi => ⟨S2 ++ S, ⟨S2, S, rfl, hp, hi⟩, fun b hb => (List.mem_append.1 hb).symm⟩
  | n + 1, y :: xs, q :: ps, S, ⟨T1, T2, e, hq, hi⟩ => by
    obtain ⟨S', a, b⟩ := Inner.insert_in hp (n := n) hi
    refine ⟨T1 ++ S', ⟨T1, S', rfl, hq, a⟩, fun c hc => ?_⟩
    subst e
    rcases List.mem_append.1 hc with hc | hc
    · exact .inl (List.mem_append_left _ hc)
    · exact (b c hc).imp (List.mem_append_right _) id
  | n + 1, [], _ :: _, S, e => e.elim
  | n + 1, _ :: _, [], S, e => e.elim

theorem inner_ln : ∀ {xs : List (List τ.T)} {ps : List Sl} {S : List Nat} {h : Heap}, Inner (fun c p => osl t τ.enc c p) xs ps S h → Inner (lnA t τ) (xs.map List.length) ps S h
  | [], [], _, _, e => e
  | x :: xs, p :: ps, S, h, ⟨S1, S2, e, hp, hi⟩ => ⟨S1, S2, e, ⟨x, rfl, hp⟩, inner_ln hi⟩
  | [], _ :: _, _, _, e => e.elim
  | _ :: _, [], _, _, e => e.elim

/-- Opened: the slices themselves, and how many each has. -/
theorem Hs.openLn {xs : List (List τ.T)} {s : Sl} {t2 : TypeId} (st : Hs fr G As h) (k : Nat) (hk : As[k]? = some (osg (fun c p => osl t τ.enc c p) t2 xs s)) :
    ∃ ps : List Sl, ps.length = xs.length ∧ Hs fr G (As.set k (osl t2 Ty.sl.enc ps s) ++ [inn (lnA t τ) (xs.map List.length) ps]) h := by
  obtain ⟨⟨ps, hl⟩, st⟩ := st.split (ι := { ps : List Sl // ps.length = xs.length }) (A1 := fun i => osl t2 Ty.sl.enc i.1 s) (A2 := fun i => inn (lnA t τ) (xs.map List.length) i.1) k hk fun S ⟨ps, S1, S2, e, hd, hp, hi⟩ =>
    ⟨⟨ps, hi.len⟩, S1, S2, e, hd, by rw [List.append_nil] at hp; exact hp, inner_ln hi⟩
  exact ⟨ps, hl, st⟩

/-- A write into one of them. -/
theorem Hs.wrLn {ns : List Nat} {ps : List Sl} {K : HP} (st : Hs fr G As h) (k : Nat) (hk : As[k]? = some (inn (lnA t τ) ns ps)) {i j : Nat} (hi : i < ns.length) (hi2 : i < ps.length) (hj : j < ns[i]) (v : τ.T)
    (hK : ∀ h', Hs fr G As h' → K h') : sx ps[i].a ps[i].len (j : Int) 1 (fun p => Sx.st1 p (τ.enc v) K) h := by
  obtain ⟨S1, p, hw⟩ := st.focus k hk
  obtain ⟨S', ⟨xs, e, q⟩, hsub⟩ := Inner.getS p i hi hi2
  rcases q with ⟨b, rest, eS, es, hb⟩ | ⟨_, ex, _⟩
  · have e1 : ps[i].a = some ⟨b, 0, none⟩ ∧ ps[i].len = xs.length := by rw [es]; exact ⟨rfl, rfl⟩
    rw [e1.1, e1.2]
    refine ⟨_, rfl, by omega, Int.ofNat_lt.2 (by omega), ?_⟩
    rw [Int.toNat_natCast, Nat.mul_one, addr_add]
    show Sx.st1 _ _ _ _
    rw [st_ok hb (by simp; omega)]
    have hbS : b ∈ S1 := hsub b (by rw [eS]; simp)
    have st2 := hw (inn (lnA t τ) ns ps) S1 _ ((Ext.refl' S1 h).set ⟨b, 0 + j, none⟩ (τ.enc v) (.inl hbS)) (Inner.set_ln b (0 + j) v p) (fun b hb => .inl hb)
    have e3 : As.set k (inn (lnA t τ) ns ps) = As := by
      have := (List.getElem?_eq_some_iff.1 hk)
      obtain ⟨h1, h2⟩ := this
      rw [← h2, List.set_getElem_self]
    rw [e3] at st2
    exact hK _ st2
  · subst ex; simp at e; omega

/-- Opened: the slices themselves, and what stands behind each. -/
theorem Hs.openG {β : Type} {I : β → Sl → Asn} {xs : List β} {s : Sl} {t2 : TypeId} (st : Hs fr G As h) (k : Nat) (hk : As[k]? = some (osg I t2 xs s)) :
    ∃ ps : List Sl, ps.length = xs.length ∧ Hs fr G (As.set k (osl t2 Ty.sl.enc ps s) ++ [inn I xs ps]) h := by
  obtain ⟨⟨ps, hl⟩, st⟩ := st.split (ι := { ps : List Sl // ps.length = xs.length }) (A1 := fun i => osl t2 Ty.sl.enc i.1 s) (A2 := fun i => inn I xs i.1) k hk fun S ⟨ps, S1, S2, e, hd, hp, hi⟩ =>
    ⟨⟨ps, hi.len⟩, S1, S2, e, hd, by rw [List.append_nil] at hp; exact hp, hi⟩
  exact ⟨ps, hl, st⟩

end
end Go.Sx
