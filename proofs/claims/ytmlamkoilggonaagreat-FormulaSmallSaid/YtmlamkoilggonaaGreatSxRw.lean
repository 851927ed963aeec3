/-
  The rows of a slice of slices, written over: what stands in them is of no more account, only how many. Nothing here names a program.
-/
import Derived.Test.YtmlamkoilggonaaGreatSxSg
import Derived.Test.YtmlamkoilggonaaGreatSxCk
import Derived.Test.YtmlamkoilggonaaGreatFoN
set_option linter.unusedVariables false
namespace Go.Sx
open Go

section
variable {fr : Fr} {G As : List Asn} {h : Heap} {τ : Ty} {t : TypeId}

def lnA (t : TypeId) (τ : Ty) (n : Nat) (p : Sl) : Asn where
  P := fun S h => ∃ xs : List τ.T, xs.length = n ∧ (osl t τ.enc xs p).P S h
  loc := fun {S h h'} ⟨xs, e, q⟩ hz hk => ⟨xs, e, (osl t τ.enc xs p).loc q hz hk⟩
  cel := fun {S h} ⟨xs, e, q⟩ b hb => (osl t τ.enc xs p).cel q b hb

theorem lnA_set {n : Nat} {p : Sl} {S : List Nat} (hp : (lnA t τ n p).P S h) (b i : Nat) (v : τ.T) : (lnA t τ n p).P S (setC h ⟨b, i, none⟩ (τ.enc v)) := by
  obtain ⟨xs, e, q⟩ := hp
  rcases q with ⟨b2, rest, eS, es, hb⟩ | ⟨eS, ex, q⟩
  · by_cases hbb : b2 = b
    · subst hbb
      have hb2 := hb.set i (τ.enc v)
      by_cases hi : i < xs.length
      · refine ⟨xs.set i v, by simpa using e, .inl ⟨b2, rest, eS, by simpa using es, ?_⟩⟩
        rw [List.set_append_left _ _ (by simpa using hi)] at hb2
        simpa using hb2
      · refine ⟨xs, e, .inl ⟨b2, rest.set (i - xs.length) (τ.enc v), eS, by simpa using es, ?_⟩⟩
        rw [List.set_append_right _ _ (by simp; omega)] at hb2
        simpa using hb2
    · refine ⟨xs, e, .inl ⟨b2, rest, eS, es, hb.set_ne _ (by simpa using hbb)⟩⟩
  · exact ⟨xs, e, .inr ⟨eS, ex, q⟩⟩
theorem Inner.set_ln (b i : Nat) (v : τ.T) : ∀ {ns : List Nat} {ps : List Sl} {S : List Nat}, Inner (lnA t τ) ns ps S h → Inner (lnA t τ) ns ps S (setC h ⟨b, i, none⟩ (τ.enc v))
  | [], [], _, e => e
  | n :: ns, p :: ps, S, ⟨S1, S2, e, hp, hi⟩ => ⟨S1, S2, e, lnA_set hp b i v, Inner.set_ln b i v hi⟩
  | [], _ :: _, _, e => e.elim
  | _ :: _, [], _, e => e.elim
theorem Inner.getS {β : Type} {I : β → Sl → Asn} : ∀ {xs : List β} {ps : List Sl} {S : List Nat} {h : Heap}, Inner I xs ps S h → ∀ i (h1 : i < xs.length) (h2 : i < ps.length), ∃ S', (I xs[i] ps[i]).P S' h ∧ ∀ b ∈ S', b ∈ S
  | x :: xs, p :: ps, S, h, ⟨S1, S2, e, hp, hi⟩, 0, _, _ => ⟨S1, hp, fun b hb => by rw [e]; exact List.mem_append_left _ hb⟩
  | x :: xs, p :: ps, S, h, ⟨S1, S2, e, hp, hi⟩, i + 1, h1, h2 => by
    obtain ⟨S', a, c⟩ := Inner.getS hi i (Nat.lt_of_succ_lt_succ h1) (Nat.lt_of_succ_lt_succ h2)
    exact ⟨S', a, fun b hb => by rw [e]; exact List.mem_append_right _ (c b hb)⟩
  | [], _, _, _, _, i, h1, _ => by simp at h1
  | _, [], _, _, _, i, _, h2 => by simp at h2

theorem Inner.insert_in {β : Type} {I : β → Sl → Asn} {h : Heap} {x : β} {p : Sl} {S2 : List Nat} (hp : (I x p).P S2 h) : ∀ {n : Nat} {xs : List β} {ps : List Sl} {S : List Nat}, Inner I xs ps S h → ∃ S', Inner I (xs.take n ++ x :: xs.drop n) (ps.take n ++ p :: ps.drop n) S' h ∧ ∀ b ∈ S', b ∈ S ∨ b ∈ S2
  | 0, xs, ps, S, hi => ⟨S2 ++ S, ⟨S2, S, rfl, hp, hi⟩, fun b hb => (List.mem_append.1 hb).symm⟩
  | n + 1, [], [], S, hi => ⟨S2 ++ S, ⟨S2, S, rfl, hp, hi⟩, fun b hb => (List.mem_append.1 hb).symm⟩
  | n + 1, y :: xs, q :: ps, S, ⟨T1, T2, e, hq, hi⟩ => by
    obtain ⟨S', a, b⟩ := Inner.insert_in hp (n := n) hi
    refine ⟨T1 ++ S', ⟨T1, S', rfl, hq, a⟩, fun c hc => ?_⟩
    subst e
    rcases List.mem_append.1 hc with hc | hc
    · exact .inl (List.mem_append_left _ hc)
    · exact (b c hc).imp (List.mem_append_right _) id
  | n + 1, [], _ :: _, S, e => e.elim
  | n + 1, _ :: _, [], S, e => e.elim

theorem inner_ln : ∀ {xs : List (List τ.T)} {ps : List Sl} {S : List Nat} {h : Heap}, Inner (fun c p => osl t τ.enc c p) xs ps S h → Inner (lnA t τ) (xs.map List.length) ps S h
  | [], [], _, _, e => e
  | x :: xs, p :: ps, S, h, ⟨S1, S2, e, hp, hi⟩ => ⟨S1, S2, e, ⟨x, rfl, hp⟩, inner_ln hi⟩
  | [], _ :: _, _, _, e => e.elim
  | _ :: _, [], _, _, e => e.elim

theorem Hs.openLn {xs : List (List τ.T)} {s : Sl} {t2 : TypeId} (st : Hs fr G As h) (k : Nat) (hk : As[k]? = some (osg (fun c p => osl t τ.enc c p) t2 xs s)) :
    ∃ ps : List Sl, ps.length = xs.length ∧ Hs fr G (As.set k (osl t2 Ty.sl.enc ps s) ++ [inn (lnA t τ) (xs.map List.length) ps]) h := by
  obtain ⟨⟨ps, hl⟩, st⟩ := st.split (ι := { ps : List Sl // ps.length = xs.length }) (A1 := fun i => osl t2 Ty.sl.enc i.1 s) (A2 := fun i => inn (lnA t τ) (xs.map List.length) i.1) k hk fun S ⟨ps, S1, S2, e, hd, hp, hi⟩ =>
    ⟨⟨ps, hi.len⟩, S1, S2, e, hd, by rw [List.append_nil] at hp; exact hp, inner_ln hi⟩
  exact ⟨ps, hl, st⟩

theorem Hs.wrLn {ns : List Nat} {ps : List Sl} {K : HP} (st : Hs fr G As h) (k : Nat) (hk : As[k]? = some (inn (lnA t τ) ns ps)) {i j : Nat} (hi : i < ns.length) (hi2 : i < ps.length) (hj : j < ns[i]) (v : τ.T)
    (hK : ∀ h', Hs fr G As h' → K h') : sx ps[i].a ps[i].len (j : Int) 1 (fun p => Sx.st1 p (τ.enc v) K) h := by
  obtain ⟨S1, p, hw⟩ := st.focus k hk
  obtain ⟨S', ⟨xs, e, q⟩, hsub⟩ := Inner.getS p i hi hi2
  rcases q with ⟨b, rest, eS, es, hb⟩ | ⟨_, ex, _⟩
  · have e1 : ps[i].a = some ⟨b, 0, none⟩ ∧ ps[i].len = xs.length := by rw [es]; exact ⟨rfl, rfl⟩
    rw [e1.1, e1.2]
    refine ⟨_, rfl, by omega, Int.ofNat_lt.2 (by omega), ?_⟩
    rw [Int.toNat_natCast, Nat.mul_one, addr_add]
    show Sx.st1 _ _ _ _
    rw [st_ok hb (by simp; omega)]
    have hbS : b ∈ S1 := hsub b (by rw [eS]; simp)
    have st2 := hw (inn (lnA t τ) ns ps) S1 _ ((Ext.refl' S1 h).set ⟨b, 0 + j, none⟩ (τ.enc v) (.inl hbS)) (Inner.set_ln b (0 + j) v p) (fun b hb => .inl hb)
    have e3 : As.set k (inn (lnA t τ) ns ps) = As := by
      have := (List.getElem?_eq_some_iff.1 hk)
      obtain ⟨h1, h2⟩ := this
      rw [← h2, List.set_getElem_self]
    rw [e3] at st2
    exact hK _ st2
  · subst ex; simp at e; omega

theorem Hs.openG {β : Type} {I : β → Sl → Asn} {xs : List β} {s : Sl} {t2 : TypeId} (st : Hs fr G As h) (k : Nat) (hk : As[k]? = some (osg I t2 xs s)) :
    ∃ ps : List Sl, ps.length = xs.length ∧ Hs fr G (As.set k (osl t2 Ty.sl.enc ps s) ++ [inn I xs ps]) h := by
  obtain ⟨⟨ps, hl⟩, st⟩ := st.split (ι := { ps : List Sl // ps.length = xs.length }) (A1 := fun i => osl t2 Ty.sl.enc i.1 s) (A2 := fun i => inn I xs i.1) k hk fun S ⟨ps, S1, S2, e, hd, hp, hi⟩ =>
    ⟨⟨ps, hi.len⟩, S1, S2, e, hd, by rw [List.append_nil] at hp; exact hp, hi⟩
  exact ⟨ps, hl, st⟩

end
end Go.Sx

set_option linter.unusedVariables false
namespace Go.Sx
open Go

section
variable {P : Program} {h h' : Heap} {s : Sl}

theorem w_indexFuncG {β : Type} {I : β → Sl → Asn} {fv : Value} {p : β → Bool} {us : List β} (hA : At h (rsg I us s)) (hl : us.length ≤ 1099511627776)
    (hc : ∀ x ∈ us, ∀ q h', Ext [] h h' → At h' (I x q) → callF P fv #[Ty.sl.enc q] .bool (fun b h2 => b = p x ∧ Ext [] h' h2) h') {K : Int → HP}
    (hK : ∀ h', Ext [] h h' → K (fidx p us) h') : W_indexFunc P .sl s fv K h := by
  unfold W_indexFunc
  have l1 := rsg_len hA
  refine lfp_invh (I := fun m σ h' => ∃ i : Nat, σ = ((i : Int), 0, ()) ∧ i ≤ us.length ∧ (∀ j (hj : j < i) (h2 : j < us.length), p us[j] = false) ∧ Ext [] h h' ∧ m = us.length - i) ⟨_, 0, rfl, by omega, fun j hj => by omega, Ext.refl' _ _, rfl⟩ ?_
  rintro m σ h' X ⟨i, rfl, hi, hn, x, em⟩ hX
  simp only
  by_cases hlt : i < us.length
  · rw [show decide ((i : Int) < (s.len : Int)) = true by rw [l1]; exact dlt_t hlt, brB_true, inc_i (show i < 4611686018427387904 by omega)]
    refine rdG (hA.ext x) hlt fun q hq => ?_
    refine callF_of (hc _ (List.getElem_mem hlt) q h' x hq) ?_
    rintro r h2 ⟨er, x2⟩
    have er : r = p us[i] := er
    subst er
    cases hpx : p us[i] with
    | true =>
      rw [brB_true]
      have := hK h2 (x.nil_trans x2)
      rw [fidx_some hlt hpx fun j hj => hn j hj (by omega)] at this; exact this
    | false =>
      rw [brB_false]
      refine hX _ _ _ ⟨i + 1, rfl, by omega, fun j hj h3 => ?_, x.nil_trans x2, rfl⟩ (by omega)
      rcases Nat.lt_or_ge j i with q | q
      · exact hn j q h3
      · have : j = i := by omega
        subst this; exact hpx
  · rw [show decide ((i : Int) < (s.len : Int)) = false by rw [l1]; exact dlt_f hlt, brB_false]
    have := hK h' x
    rw [fidx_none fun j hj => hn j (by omega) hj] at this; exact this
end

theorem perm_swap {α : Type} {xs : List α} {i j : Nat} (hi : i < xs.length) (hj : j < xs.length) : ((xs.set i xs[j]).set j xs[i]).Perm xs := by
  have h := Array.swap_perm (xs := xs.toArray) (i := i) (j := j) (by simpa using hi) (by simpa using hj)
  have h2 := Array.perm_iff_toList_perm.1 h
  simpa [Array.swap_def] using h2

section
variable {α : Type} {enc : α → List Value} {xs : List α} {s : Sl} {fr : Fr} {G As : List Asn} {h : Heap} {t : TypeId}

theorem flat_set {n : Nat} (hw : Wide n enc) {x : α} : ∀ {xs : List α} {i : Nat}, i < xs.length → ((xs.set i x).map enc).flatten = ((xs.map enc).flatten.take (i * n)) ++ enc x ++ ((xs.map enc).flatten.drop (i * n + n))
  | y :: ys, 0, _ => by
    simp only [List.set_cons_zero, List.map_cons, List.flatten_cons, Nat.zero_mul, List.take_zero, List.nil_append, Nat.zero_add]
    congr 1
    rw [← hw y, List.drop_left]
  | y :: ys, i + 1, hi => by
    simp only [List.set_cons_succ, List.map_cons, List.flatten_cons]
    rw [flat_set hw (xs := ys) (by simpa using hi)]
    have e1 : (i + 1) * n = (enc y).length + i * n := by rw [hw y, Nat.succ_mul]; omega
    rw [e1, List.take_length_add_append, Nat.add_assoc, List.drop_length_add_append]
    simp

theorem Hs.wr3 {K : HP} (st : Hs fr G As h) (hw : Wide 3 enc) (k : Nat) (hk : As[k]? = some (osn t 3 enc xs s)) {i : Nat} (hi : i < xs.length) (x : α) {v0 v1 v2 : Value} (hx : enc x = [v0, v1, v2])
    (hK : ∀ h', Hs fr G (As.set k (osn t 3 enc (xs.set i x) s)) h' → K h') :
    sx s.a s.len (i : Int) 3 (fun p => Sx.st1 p v0 <| Sx.st1 (p.add 1) v1 <| Sx.st1 (p.add 2) v2 <| K) h := by
  obtain ⟨S1, p, hwr⟩ := st.focus k hk
  rcases p with ⟨b, rest, cap, eS, es, hr, hb⟩ | ⟨_, ex, _⟩
  · subst es
    refine ⟨_, rfl, Int.natCast_nonneg _, Int.ofNat_lt.2 hi, ?_⟩
    rw [Int.toNat_natCast]
    simp only [addr_add, Nat.zero_add]
    have hfl := flat_len hw xs
    have hle : i * 3 + 3 ≤ xs.length * 3 := by omega
    rw [st_ok hb (by simp [hfl]; omega)]
    have hb1 := hb.set (i * 3) v0
    rw [st_ok hb1 (by simp [hfl]; omega)]
    have hb2 := hb1.set (i * 3 + 1) v1
    rw [st_ok hb2 (by simp [hfl]; omega)]
    have hb3 := hb2.set (i * 3 + 2) v2
    refine hK _ (hwr (osn t 3 enc (xs.set i x) ⟨some ⟨b, 0, none⟩, xs.length, xs.length + cap⟩) [b] _ ((((Ext.refl' S1 h).set _ _ (by simp [eS])).set _ _ (by simp [eS])).set _ _ (by simp [eS])) (.inl ⟨b, rest, cap, rfl, by simp, hr, ?_⟩) (by simp [eS]))
    have e : ((((xs.map enc).flatten ++ rest).set (i * 3) v0).set (i * 3 + 1) v1).set (i * 3 + 2) v2 = ((xs.set i x).map enc).flatten ++ rest := by
      rw [flat_set hw hi, hx]
      generalize hF : (xs.map enc).flatten = F at *
      have hF3 : F.length = xs.length * 3 := hfl
      apply List.ext_getElem?
      intro j
      rw [List.getElem?_set, List.getElem?_set, List.getElem?_set]
      simp only [List.length_set, List.length_append]
      have hl1 : (F.take (i * 3)).length = i * 3 := by rw [List.length_take]; omega
      have hl2 : (F.take (i * 3) ++ [v0, v1, v2]).length = i * 3 + 3 := by rw [List.length_append, hl1]; rfl
      have hl3 : (F.take (i * 3) ++ [v0, v1, v2] ++ F.drop (i * 3 + 3)).length = F.length := by rw [List.length_append, hl2, List.length_drop]; omega
      rcases Nat.lt_or_ge j F.length with q | q
      · rw [List.getElem?_append_left (l₁ := F) q]
        rcases Nat.lt_or_ge j (i * 3) with q1 | q1
        · have hR : (F.take (i * 3) ++ [v0, v1, v2] ++ F.drop (i * 3 + 3) ++ rest)[j]? = F[j]? := by
            rw [List.getElem?_append_left (by omega), List.getElem?_append_left (by omega), List.getElem?_append_left (by omega), List.getElem?_take_of_lt q1]
          rw [hR, if_neg (by omega), if_neg (by omega), if_neg (by omega)]
        · rcases Nat.lt_or_ge j (i * 3 + 3) with q2 | q2
          · have hR : (F.take (i * 3) ++ [v0, v1, v2] ++ F.drop (i * 3 + 3) ++ rest)[j]? = [v0, v1, v2][j - i * 3]? := by
              rw [List.getElem?_append_left (by omega), List.getElem?_append_left (by omega), List.getElem?_append_right (by omega), hl1]
            rw [hR]
            have hj : j = i * 3 ∨ j = i * 3 + 1 ∨ j = i * 3 + 2 := by omega
            rcases hj with rfl | rfl | rfl
            · rw [if_neg (by omega), if_neg (by omega), if_pos rfl, if_pos (by omega), Nat.sub_self]; rfl
            · rw [if_neg (by omega), if_pos rfl, if_pos (by omega), Nat.add_sub_cancel_left]; rfl
            · rw [if_pos rfl, if_pos (by omega), Nat.add_sub_cancel_left]; rfl
          · have hR : (F.take (i * 3) ++ [v0, v1, v2] ++ F.drop (i * 3 + 3) ++ rest)[j]? = F[j]? := by
              rw [List.getElem?_append_left (by omega), List.getElem?_append_right (by omega), hl2, List.getElem?_drop]
              congr 1; omega
            rw [hR, if_neg (by omega), if_neg (by omega), if_neg (by omega)]
      · have hR : (F.take (i * 3) ++ [v0, v1, v2] ++ F.drop (i * 3 + 3) ++ rest)[j]? = rest[j - F.length]? := by
          rw [List.getElem?_append_right (by omega), hl3]
        rw [hR, List.getElem?_append_right (l₁ := F) q, if_neg (by omega), if_neg (by omega), if_neg (by omega)]
    rw [e] at hb3; exact hb3
  · subst ex; simp at hi
end
end Go.Sx

set_option linter.unusedVariables false
set_option linter.unusedSimpArgs false
namespace Go.Proofs.S
open Go Go.Sx Go.Proofs Go.Cl

variable {h : Heap} {c d : List Int} {s s2 : Sl} {fr : Fr} {G As : List Asn} {m : List Bool} {sm : Sl} {k k2 : List Bool}

theorem litOf_rt (n : Int) : rt (litOf n) = true ∧ varL (litOf n) ≤ 8 := by
  have h1 : rt (litOf n) = true := by rw [rt_iff]; unfold litOf; split <;> omega
  refine ⟨h1, ?_⟩
  unfold varL
  rw [if_pos h1]
  unfold litOf
  split <;> split <;> omega
theorem madeP_good (l : List Int) : rightC (madeP l) = true ∧ ∀ x ∈ madeP l, beyP 8 x = false := by
  have hx : ∀ x ∈ madeP l, rt x = true ∧ varL x ≤ 8 := fun x hx => by
    obtain ⟨n, _, rfl⟩ := List.mem_map.1 hx
    exact litOf_rt n
  constructor
  · unfold rightC
    rw [decide_eq_true (show (madeP l).length ≤ 4096 by unfold madeP; simp; omega), Bool.true_and, List.all_eq_true]
    exact fun x q => (hx x q).1
  · intro x q
    obtain ⟨a, b⟩ := hx x q
    unfold beyP
    rw [a, decide_eq_false (by omega)]; rfl
theorem madeF_good (cs : List (List Int)) : ∀ c ∈ madeF cs, rightC c = true ∧ ∀ x ∈ c, beyP 8 x = false := fun c hc => by
  obtain ⟨l, _, rfl⟩ := List.mem_map.1 hc
  exact madeP_good l
theorem good8 (cs : List (List Int)) : GoodF 8 (madeF cs) := ⟨by rfl, by have := madeF_len cs; omega, madeF_good cs⟩
theorem bey_big {x : Int} (h : 9 ≤ x ∨ x ≤ -9) : beyP 8 x = true := by
  unfold beyP varL
  cases hr : rt x with
  | false => rfl
  | true =>
    rw [if_pos rfl, Bool.not_true, Bool.false_or]
    refine decide_eq_true ?_
    split <;> omega

theorem failsGo_neg : ∀ {cs : List (List Int)} {i : Nat}, failsGo m i cs < 0 ↔ ∀ c ∈ cs, c.any (trueIn m) = true
  | [], i => by simp [failsGo]
  | c :: cs, i => by
    unfold failsGo
    by_cases hc : c.any (trueIn m) = true
    · rw [if_pos hc, failsGo_neg]
      constructor
      · intro q d hd
        rcases List.mem_cons.1 hd with rfl | hd
        · exact hc
        · exact q d hd
      · exact fun q d hd => q d (List.mem_cons_of_mem _ hd)
    · rw [if_neg hc]
      constructor
      · intro q; omega
      · intro q; exact absurd (q c (by simp)) hc
theorem holdsF_good {n : Nat} (hr : rightC c = true) (hb : ∀ x ∈ c, beyP n x = false) (hm : m.length = n) : holdsF c m = c.any (trueIn m) := by
  unfold holdsF
  have : c.any (beyP m.length) = false := by rw [List.any_eq_false]; intro x hx; rw [hm, hb x hx]; decide
  rw [hr, this]; rfl
theorem mem_models {v : Nat} {cs : List (List Int)} : m ∈ modelsF v cs ↔ m.length = v ∧ ∀ c ∈ cs, c.any (trueIn m) = true := by
  unfold modelsF
  rw [List.mem_filter, Cr.mem_allB, decide_eq_true_eq, failsGo_neg]
theorem models_snoc (v : Nat) (cs : List (List Int)) (mo : List Int) : modelsF v (cs ++ [mo]) = (modelsF v cs).filter fun m => mo.any (trueIn m) := by
  unfold modelsF
  rw [List.filter_filter]
  congr 1
  funext m
  rw [Bool.eq_iff_iff, Bool.and_eq_true, decide_eq_true_eq, decide_eq_true_eq, failsGo_neg, failsGo_neg]
  constructor
  · exact fun q => ⟨q mo (by simp), fun c hc => q c (by simp [hc])⟩
  · rintro ⟨q1, q2⟩ c hc
    rcases List.mem_append.1 hc with hc | hc
    · exact q2 c hc
    · rw [List.mem_singleton.1 hc]; exact q1
theorem varL_neg {x : Int} (h : rt x = true) : varL (-x) = varL x := by
  have h0 := rt_iff.1 h
  unfold varL
  rw [if_pos h, if_pos (rt_neg h)]
  split <;> split <;> omega
theorem trueIn_neg {x : Int} (h : rt x = true) : trueIn m (-x) = !trueIn m x := by
  have h0 := rt_iff.1 h
  unfold trueIn
  rw [varL_neg h]
  have : decide (-x < 0) = !decide (x < 0) := by
    by_cases q : x < 0
    · rw [decide_eq_true q, decide_eq_false (by omega)]; rfl
    · rw [decide_eq_false q, decide_eq_true (by omega)]; rfl
  rw [this]
  cases (m[(varL x - 1).toNat]?.getD false) <;> cases decide (x < 0) <;> rfl

end Go.Proofs.S
