/-
  Groups that are missing, twice there, or of no candidate; more entries; definitions. No program here.
-/
import Derived.Test.YtjkgncibelojnaaGreatRtS
import Derived.Test.YtjkgncibelojnaaGreatSxSg
import Derived.Test.YtjkgncibelojnaaGreatSxSort
set_option linter.unusedVariables false
set_option linter.unusedSimpArgs false
namespace Go.Rt
open Go Go.Cl Go.Rp
variable {l X : List Ent} {A B c : List Int} {p : Int}
theorem scan_snoc {want : List Int} {g : Grp} : ∀ {gs : List Grp} {last : Int}, (∀ g ∈ gs, g.1 ∈ want) → gs.Pairwise (fun x y => x.1 < y.1) → (∀ g ∈ gs, last < g.1) → (g.1 ∉ want ∨ g.1 ≤ last ∨ ∃ x ∈ gs, g.1 ≤ x.1) → scanG want last (gs ++ [g]) = (g.1, 92)
  | [], last, _, _, _, h => by
    simp only [List.nil_append, scanG]
    rw [if_pos]
    rcases h with h | h | ⟨x, hx, _⟩
    · exact .inl h
    · exact .inr h
    · cases hx
  | y :: gs, last, h1, h2, h3, h => by
    simp only [List.cons_append, scanG]
    have a := h1 y (by simp)
    have b := h3 y (by simp)
    rw [if_neg (by rintro (h | h); exact h a; omega)]
    obtain ⟨c, d⟩ := List.pairwise_cons.1 h2
    refine scan_snoc (fun x hx => h1 x (by simp [hx])) d c ?_
    rcases h with h | h | ⟨x, hx, hle⟩
    · exact .inl h
    · exact .inr (.inl (by omega))
    · rcases List.mem_cons.1 hx with rfl | hx
      · exact .inr (.inl hle)
      · exact .inr (.inr ⟨x, hx, hle⟩)
structure GrpOk (l : List Ent) (p : Int) (gs : List Grp) : Prop where
  ids : gs.map (·.1) = candIDs l p
  sorted : gs.Pairwise fun x y => x.1 < y.1
  pos : ∀ g ∈ gs, 0 < g.1
theorem GrpOk.mem {gs : List Grp} (k : GrpOk l p gs) : ∀ g ∈ gs, g.1 ∈ candIDs l p := fun g hg => by rw [← k.ids]; exact List.mem_map.2 ⟨g, hg, rfl⟩
theorem GrpOk.right {gs : List Grp} (k : GrpOk l p gs) : groupsP l p gs = (0, 0) := by
  unfold groupsP
  have hn : (candIDs l p).find? (fun id => !(gs.map (·.1)).contains id) = none := by
    rw [List.find?_eq_none]
    intro id hid
    rw [k.ids]; simp [hid]
  rw [hn]
  exact scan_ok k.mem k.sorted k.pos
theorem GrpOk.more {gs : List Grp} (k : GrpOk l p gs) {g : Grp} (h : g.1 ∉ candIDs l p ∨ ∃ x ∈ gs, g.1 ≤ x.1) : groupsP l p (gs ++ [g]) = (g.1, 92) := by
  unfold groupsP
  have hn : (candIDs l p).find? (fun id => !((gs ++ [g]).map (·.1)).contains id) = none := by
    rw [List.find?_eq_none]
    intro id hid
    rw [List.map_append, k.ids]; simp [hid]
  rw [hn]
  exact scan_snoc k.mem k.sorted k.pos (h.imp id .inr)
theorem GrpOk.less {gs : List Grp} (k : GrpOk l p gs) {i : Nat} (hi : i < gs.length) : groupsP l p (gs.eraseIdx i) = (gs[i].1, 92) := by
  unfold groupsP
  have hn : (candIDs l p).find? (fun id => !((gs.eraseIdx i).map (·.1)).contains id) = some gs[i].1 := by
    rw [← k.ids, List.find?_eq_some_iff_getElem]
    have hm : i < (gs.map (·.1)).length := by simpa using hi
    refine ⟨?_, i, hm, by simp, fun j hj => ?_⟩
    · rw [Bool.not_eq_true']
      rw [Bool.eq_false_iff, ne_eq, List.contains_iff_mem]
      intro hc
      obtain ⟨g, hg, e⟩ := List.mem_map.1 hc
      obtain ⟨j, hj, e2⟩ := List.getElem_of_mem hg
      rw [List.getElem_eraseIdx] at e2
      have hle : (gs.eraseIdx i).length = gs.length - 1 := List.length_eraseIdx_of_lt hi
      split at e2
      · rename_i hji
        have := List.pairwise_iff_getElem.1 k.sorted j i (by omega) hi hji
        rw [e2] at this; omega
      · rename_i hji
        have := List.pairwise_iff_getElem.1 k.sorted i (j + 1) hi (by omega) (by omega)
        rw [e2] at this; omega
    · simp only [List.getElem_map, Bool.not_not, List.contains_iff_mem]
      rw [List.mem_map]
      refine ⟨gs[j]'(by omega), ?_, rfl⟩
      rw [List.mem_eraseIdx_iff_getElem]
      exact ⟨j, by omega, by omega, rfl⟩
  rw [hn]
end Go.Rt
namespace Go.Rt
open Go Go.Cl Go.Rp
variable {l X : List Ent} {A B c : List Int} {p : Int}
end Go.Rt
namespace Go.Sx
open Go
def newA (n : Nat) (A : Asn) : Asn where
  P := fun S h => A.P S h ∧ ∀ b ∈ S, n ≤ b
  loc := fun p hz hk => ⟨A.loc p.1 hz hk, p.2⟩
  cel := fun p => A.cel p.1
section
variable {fr : Fr} {G As : List Asn} {h h' : Heap} {A : Asn} {n : Nat}
theorem newA_new (hA : At h (newA n A)) : New n h A := let ⟨S, p, q⟩ := hA; ⟨S, p, q⟩
theorem New.newA (hA : New n h A) : New n h (Sx.newA n A) := let ⟨S, p, q⟩ := hA; ⟨S, ⟨p, q⟩, q⟩
theorem Hs.fresh {h0 : Heap} (st : Hs fr G As h) (hm : ([], h0) ∈ fr) (k : Nat) (hk : As[k]? = some A) : Hs fr G (As.set k (newA h0.size A)) h := by
  obtain ⟨S, hs, hz, hf⟩ := st
  obtain ⟨S1, S2, hmm, hd, hA, hr, hw⟩ := hs.focus k hk
  obtain ⟨S', hm', hs'⟩ := hw (newA h0.size A) S1 h hr ⟨hA, fun b hb => ((hf _ hm).2 b ((hmm b).2 (.inl hb))).elim (fun q => by cases q) id⟩ hd
  have hS : ∀ b ∈ S', b ∈ S ∨ h.size ≤ b := fun b hb => .inl ((hmm b).2 ((hm' b).1 hb))
  exact ⟨S', hs', hz.mono hS, hf.mono hS⟩
theorem New.rsl {α : Type} {t : TypeId} {enc : α → Value} {xs : List α} {s : Sl} (hA : New n h (osl t enc xs s)) : New n h (rsl enc xs s) := let ⟨S, p, q⟩ := hA; ⟨S, osl_rsl p, q⟩
end
end Go.Sx
namespace Go.Sx
open Go
def starA (As : List Asn) : Asn where
  P := fun S h => Sep As S h
  loc := fun p hz hk => Sep.keep p hz hk
  cel := fun p => Sep.cel p
theorem Sep.parts : ∀ {As Bs : List Asn} {S : List Nat} {h : Heap}, Sep (As ++ Bs) S h → ∃ S1 S2, S = S1 ++ S2 ∧ (∀ b ∈ S1, b ∉ S2) ∧ Sep As S1 h ∧ Sep Bs S2 h
  | [], Bs, S, h, hs => ⟨[], S, rfl, by simp, rfl, hs⟩
  | A :: As, Bs, S, h, ⟨S1, S2, e, hd, hA, hs⟩ => by
    obtain ⟨T1, T2, e2, hd2, h1, h2⟩ := Sep.parts hs
    subst e2; subst e
    refine ⟨S1 ++ T1, T2, by simp, fun b hb hin => ?_, ⟨S1, T1, rfl, fun b hb hin => hd b hb (by simp [hin]), hA, h1⟩, h2⟩
    rcases List.mem_append.1 hb with k | k
    · exact hd b k (by simp [hin])
    · exact hd2 b k hin
def SepTo (As Bs : List Asn) : Prop := ∀ S h, Sep As S h → ∃ S', Sep Bs S' h ∧ ∀ b ∈ S', b ∈ S
theorem SepTo.unpack (As Bs Cs : List Asn) : SepTo (As ++ starA Bs :: Cs) (As ++ (Bs ++ Cs)) := fun S h hs => by
  obtain ⟨S1, S2, e, hd, h1, S3, S4, e2, hd2, h3, h4⟩ := hs.parts
  subst e2; subst e
  exact ⟨S1 ++ (S3 ++ S4), h1.append (Sep.append h3 h4 hd2) hd, fun b hb => hb⟩
theorem SepTo.hd {As : List Asn} (k : Nat) {A : Asn} (hk : As[k]? = some A) : SepTo As (A :: As.eraseIdx k) := fun S h hs => by
  obtain ⟨S1, S2, hm, hd, hA, hr, _⟩ := hs.focus k hk
  exact ⟨S1 ++ S2, ⟨S1, S2, rfl, hd, hA, hr⟩, fun b hb => (hm b).2 (List.mem_append.1 hb)⟩
section
variable {fr : Fr} {G As Bs : List Asn} {h h' : Heap}
theorem Hs.conv (st : Hs fr G As h) (c : SepTo As Bs) : Hs fr G Bs h := by
  obtain ⟨S, hs, hz, hf⟩ := st
  obtain ⟨S', hs', hm⟩ := c S h hs
  exact ⟨S', hs', hz.mono fun b hb => .inl (hm b hb), hf.mono fun b hb => .inl (hm b hb)⟩
theorem Hs.hd (st : Hs fr G As h) (k : Nat) {A : Asn} (hk : As[k]? = some A) : Hs fr G (A :: As.eraseIdx k) h := st.conv (SepTo.hd k hk)
end
section
variable {P : Program} {τ : Ty} {h : Heap} {Nx : List τ.T → τ.T → Heap → List Nat → Prop} {Nv : List τ.T → τ.T → Prop} {F : List Nat} {α : Type} {A : List τ.T → List Nat → HP} {D : List Nat → HP} {yl : Value} {G As Bs : List Asn} {pre : List τ.T} {B : List Nat} {h' : Heap}
theorem It.conv {A : List α → List Nat → HP} {pre : List α} (it : It h F A G As pre B h') (c : SepTo As Bs) : It h F A G Bs pre B h' := by
  obtain ⟨hA, hz, hBF, hF, hBl, S, hs, hS, hG⟩ := it
  obtain ⟨S', hs', hm⟩ := c S h' hs
  exact ⟨hA, hz, hBF, hF, hBl, S', hs', fun b hb => hS b (hm b hb), hG⟩
end
end Go.Sx
namespace Go.Sx
open Go
section
variable {fr : Fr} {G As : List Asn} {h : Heap} {τ : Ty} {t : TypeId}
def lnA (t : TypeId) (τ : Ty) (n : Nat) (p : Sl) : Asn where
  P := fun S h => ∃ xs : List τ.T, xs.length = n ∧ (osl t τ.enc xs p).P S h
  loc := fun {S h h'} ⟨xs, e, q⟩ hz hk => ⟨xs, e, (osl t τ.enc xs p).loc q hz hk⟩
  cel := fun {S h} ⟨xs, e, q⟩ b hb => (osl t τ.enc xs p).cel q b hb
theorem lnA_set {n : Nat} {p : Sl} {S : List Nat} (hp : (lnA t τ n p).P S h) (b i : Nat) (v : τ.T) : (lnA t τ n p).P S (setC h ⟨b, i, none⟩ (τ.enc v)) := by
  obtain ⟨xs, e, q⟩ := hp
  rcases q with ⟨b2, rest, eS, es, hb⟩ | ⟨eS, ex, q⟩
  · by_cases hbb : b2 = b
    · subst hbb
      have hb2 := hb.set i (τ.enc v)
      by_cases hi : i < xs.length
      · refine ⟨xs.set i v, by simpa using e, .inl ⟨b2, rest, eS, by simpa using es, ?_⟩⟩
        rw [List.set_append_left _ _ (by simpa using hi)] at hb2
        simpa using hb2
      · refine ⟨xs, e, .inl ⟨b2, rest.set (i - xs.length) (τ.enc v), eS, by simpa using es, ?_⟩⟩
        rw [List.set_append_right _ _ (by simp; omega)] at hb2
        simpa using hb2
    · refine ⟨xs, e, .inl ⟨b2, rest, eS, es, hb.set_ne _ (by simpa using hbb)⟩⟩
  · exact ⟨xs, e, .inr ⟨eS, ex, q⟩⟩
theorem Inner.set_ln (b i : Nat) (v : τ.T) : ∀ {ns : List Nat} {ps : List Sl} {S : List Nat}, Inner (lnA t τ) ns ps S h → Inner (lnA t τ) ns ps S (setC h ⟨b, i, none⟩ (τ.enc v))
  | [], [], _, e => e
  | n :: ns, p :: ps, S, ⟨S1, S2, e, hp, hi⟩ => ⟨S1, S2, e, lnA_set hp b i v, Inner.set_ln b i v hi⟩
  | [], _ :: _, _, e => e.elim
  | _ :: _, [], _, e => e.elim
theorem Inner.getS {β : Type} {I : β → Sl → Asn} : ∀ {xs : List β} {ps : List Sl} {S : List Nat} {h : Heap}, Inner I xs ps S h → ∀ i (h1 : i < xs.length) (h2 : i < ps.length), ∃ S', (I xs[i] ps[i]).P S' h ∧ ∀ b ∈ S', b ∈ S
  | x :: xs, p :: ps, S, h, ⟨S1, S2, e, hp, hi⟩, 0, _, _ => ⟨S1, hp, fun b hb => by rw [e]; exact List.mem_append_left _ hb⟩
  | x :: xs, p :: ps, S, h, ⟨S1, S2, e, hp, hi⟩, i + 1, h1, h2 => by
    obtain ⟨S', a, c⟩ := Inner.getS hi i (Nat.lt_of_succ_lt_succ h1) (Nat.lt_of_succ_lt_succ h2)
    exact ⟨S', a, fun b hb => by rw [e]; exact List.mem_append_right _ (c b hb)⟩
  | [], _, _, _, _, i, h1, _ => by simp at h1
  | _, [], _, _, _, i, _, h2 => by simp at h2
theorem inner_ln : ∀ {xs : List (List τ.T)} {ps : List Sl} {S : List Nat} {h : Heap}, Inner (fun c p => osl t τ.enc c p) xs ps S h → Inner (lnA t τ) (xs.map List.length) ps S h
  | [], [], _, _, e => e
  | x :: xs, p :: ps, S, h, ⟨S1, S2, e, hp, hi⟩ => ⟨S1, S2, e, ⟨x, rfl, hp⟩, inner_ln hi⟩
  | [], _ :: _, _, _, e => e.elim
  | _ :: _, [], _, _, e => e.elim
theorem Hs.wrLn {ns : List Nat} {ps : List Sl} {K : HP} (st : Hs fr G As h) (k : Nat) (hk : As[k]? = some (inn (lnA t τ) ns ps)) {i j : Nat} (hi : i < ns.length) (hi2 : i < ps.length) (hj : j < ns[i]) (v : τ.T)
    (hK : ∀ h', Hs fr G As h' → K h') : sx ps[i].a ps[i].len (j : Int) 1 (fun p => Sx.st1 p (τ.enc v) K) h := by
  obtain ⟨S1, p, hw⟩ := st.focus k hk
  obtain ⟨S', ⟨xs, e, q⟩, hsub⟩ := Inner.getS p i hi hi2
  rcases q with ⟨b, rest, eS, es, hb⟩ | ⟨_, ex, _⟩
  · have e1 : ps[i].a = some ⟨b, 0, none⟩ ∧ ps[i].len = xs.length := by rw [es]; exact ⟨rfl, rfl⟩
    rw [e1.1, e1.2]
    refine ⟨_, rfl, by omega, Int.ofNat_lt.2 (by omega), ?_⟩
    rw [Int.toNat_natCast, Nat.mul_one, addr_add]
    show Sx.st1 _ _ _ _
    rw [st_ok hb (by simp; omega)]
    have hbS : b ∈ S1 := hsub b (by rw [eS]; simp)
    have st2 := hw (inn (lnA t τ) ns ps) S1 _ ((Ext.refl' S1 h).set ⟨b, 0 + j, none⟩ (τ.enc v) (.inl hbS)) (Inner.set_ln b (0 + j) v p) (fun b hb => .inl hb)
    have e3 : As.set k (inn (lnA t τ) ns ps) = As := by
      have := (List.getElem?_eq_some_iff.1 hk)
      obtain ⟨h1, h2⟩ := this
      rw [← h2, List.set_getElem_self]
    rw [e3] at st2
    exact hK _ st2
  · subst ex; simp at e; omega
end
end Go.Sx
