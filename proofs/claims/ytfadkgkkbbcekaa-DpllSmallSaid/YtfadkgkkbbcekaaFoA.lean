/-
  The package formula: vars, beyond, Check: contracts.
-/
import Derived.Test.YtfadkgkkbbcekaaClT
import Derived.Test.YtfadkgkkbbcekaaSxW2
set_option linter.unusedVariables false
set_option linter.unusedSimpArgs false
namespace Go.Proofs.S
open Go Go.Sx Go.Proofs Go.Cl

variable {h : Heap} {c d : List Int} {s s2 : Sl} {fr : Fr} {G As : List Asn}
abbrev lli (cs : List (List Int)) (s : Sl) : Asn := rsg (fun c p => li c p) cs s

theorem containsFunc_c {fv : Value} {p : Int → Bool} (hA : At h (li c s)) (hl : c.length ≤ 1099511627776) (hp : PredOk Try.prog i64 fv p c h) :
    callT Try.prog fn_slices_ContainsFunc_clauses_Clause_lits_Lit #[.slice s.a s.len s.cap, fv] .bool (fun r h' => r = c.any p ∧ Ext [] h h') h := by
  refine callT_gen fun K hK => S_slices_ContainsFunc_clauses_Clause_lits_Lit (a0 := s) (a1 := fv) K ?_
  unfold F_slices_ContainsFunc_clauses_Clause_lits_Lit
  refine call_of (R := fun r h' => r = fidx p c ∧ Ext [] h h') ?_ ?_
  · exact callT_gen fun K hK => S_slices_IndexFunc_clauses_Clause_lits_Lit (a0 := s) (a1 := fv) K (w_indexFunc (P := Try.prog) (τ := i64) hA hl hp fun h' x => hK _ _ ⟨rfl, x⟩)
  · rintro r h' ⟨rfl, x⟩
    exact hK _ _ ⟨fidx_ge _ _, x⟩

theorem vars_c (n : Int) : callT Try.prog fn_formula_vars #[.int .i64 n] .bool (fun r h' => r = varsP n ∧ h' = h) h := by
  refine callT_gen fun K hK => S_formula_vars (a0 := n) K ?_
  unfold F_formula_vars
  by_cases h1 : n ≥ 0
  · rw [decide_eq_true h1, brB_true]; exact hK _ _ ⟨by simp [varsP, h1], rfl⟩
  · rw [decide_eq_false h1, brB_false]; exact hK _ _ ⟨by simp [varsP, h1], rfl⟩

abbrev beyondV (b : Nat) : Value := .func (.func fn_formula_beyond_1) #[] #[.pointer (some ⟨b, 0, none⟩)]
theorem beyond_c (n : Int) {K : Value → HP} (hK : ∀ b h', Ext [] h h' → Blk h' b ty_int [.int .i64 n] → K (beyondV b) h') : callT Try.prog fn_formula_beyond #[.int .i64 n] .val K h := by
  refine S_formula_beyond (a0 := n) K ?_
  unfold F_formula_beyond
  rw [nw_eq]
  exact hK _ _ ((Ext.refl' [] h).push _) (Blk.new h _ #[.int .i64 n])
theorem beyond1_c {b : Nat} {n : Int} (kb : Blk h b ty_int [.int .i64 n]) (x : Int) : callT Try.prog fn_formula_beyond_1 #[.int .i64 x, .pointer (some ⟨b, 0, none⟩)] .bool (fun r h' => r = beyP n x ∧ h' = h) h := by
  refine callT_gen fun K hK => S_formula_beyond_1 (a0 := x) (c0 := ⟨b, 0, none⟩) K ?_
  unfold F_formula_beyond_1
  refine call_of (lits_Right_c x) ?_
  rintro r h' ⟨rfl, rfl⟩
  cases hx : rt x with
  | false => simp only [Bool.not_false, brB_true]; exact hK _ _ ⟨by simp [beyP, hx], rfl⟩
  | true =>
    simp only [Bool.not_true, brB_false]
    rw [ld_int (i := 0) kb rfl]
    refine call_of (lits_Var_c x) ?_
    rintro r h2 ⟨rfl, rfl⟩
    rw [ck_ok (i := 0) kb rfl]
    exact hK _ _ ⟨by simp [beyP, varL, hx], rfl⟩
theorem beyondF {b : Nat} {n : Int} (kb : Blk h b ty_int [.int .i64 n]) (x : Int) : callF Try.prog (beyondV b) #[.int .i64 x] .bool (fun r h' => r = beyP n x ∧ h' = h) h := callF_func (beyond1_c kb x)
theorem predBeyond {b : Nat} {n : Int} (kb : Blk h b ty_int [.int .i64 n]) (c : List Int) : PredOk Try.prog i64 (beyondV b) (beyP n) c h :=
  fun x _ h' x' => callF_of (beyondF (kb.ext x' (by simp)) x) fun r h2 ⟨e, e2⟩ => ⟨e, by rw [e2]; exact Ext.refl' _ _⟩

theorem check_c {n : Int} {cs : List (List Int)} (hA : At h (lli cs s)) : callT Try.prog fn_formula_Check #[.agg #[.int .i64 n, .slice s.a s.len s.cap]] (.tup (.cons (.int .i64) (.cons (.int .i64) .nil)))
    (fun r h' => r = ((checkP n cs).1, (checkP n cs).2, ()) ∧ Ext [] h h') h := by
  refine callT_gen fun K hK => S_formula_Check (a0 := (n, s, ())) K ?_
  unfold F_formula_Check
  have st := Hs.start h [lli cs s] (by simp [hA])
  have l1 := rsg_len hA
  refine st.nw fun b0 h1 st => ?_
  simp only [addr_add, Nat.zero_add]
  rw [st.ldi 0 0 rfl rfl]
  refine call_of (vars_c n) ?_
  rintro _ hq ⟨rfl, rfl⟩
  cases hv : varsP n with
  | false => simp only [Bool.not_false, brB_true]; exact hK _ _ ⟨by simp [checkP, hv], st.frame (by simp)⟩
  | true =>
    simp only [Bool.not_true, brB_false]
    rw [st.lds 0 1 rfl rfl]
    by_cases hl : cs.length > 262144
    · rw [decide_eq_true (show (s.len : Int) > 262144 by omega), brB_true]
      exact hK _ _ ⟨by simp [checkP, hv, hl], st.frame (by simp)⟩
    · rw [decide_eq_false (show ¬ (s.len : Int) > 262144 by omega), brB_false, st.lds 0 1 rfl rfl]
      have e : checkP n cs = checkGo n 0 cs := by simp [checkP, hv, hl]
      refine lfp_invh (I := fun m σ h' => ∃ i : Nat, σ = ((i : Int), 0, 0, ()) ∧ i ≤ cs.length ∧ checkGo n i (cs.drop i) = checkP n cs ∧ Hs [([], h)] [lli cs s] [cl b0 ty_formula_Formula [.int .i64 n, .slice s.a s.len s.cap]] h' ∧ m = cs.length - i)
        ⟨_, 0, rfl, by omega, e.symm, st, rfl⟩ ?_
      clear st
      rintro m σ h2 X ⟨i, rfl, hi, hc, st, em⟩ hX
      simp only
      by_cases hlt : i < cs.length
      · rw [show decide ((i : Int) < (s.len : Int)) = true by rw [l1]; exact dlt_t hlt, brB_true, inc_i (show i < 4611686018427387904 by omega)]
        rw [List.drop_eq_getElem_cons hlt, checkGo] at hc
        refine rdG (st.fz 0 rfl) hlt fun p hp => ?_
        refine call_of (right_c hp) ?_
        rintro _ h3 ⟨rfl, x3⟩
        have st := st.ext x3
        by_cases hr : rightC cs[i] = true
        · rw [if_pos hr] at hc
          rw [hr]; simp only [Bool.not_true, brB_false]
          rw [st.ldi 0 0 rfl rfl]
          refine beyond_c n fun b h4 x4 kb => ?_
          have st := st.ext x4
          refine call_of (containsFunc_c ((hp.ext x3).ext x4) (by have := rightC_len hr; omega) (predBeyond kb _)) ?_
          rintro _ h5 ⟨rfl, x5⟩
          have st := st.ext x5
          by_cases hb : cs[i].any (beyP n) = true
          · rw [if_pos hb] at hc
            rw [hb, brB_true]
            exact hK _ _ ⟨by rw [← hc], st.frame (by simp)⟩
          · rw [if_neg hb] at hc
            rw [show cs[i].any (beyP n) = false by simpa using hb, brB_false]
            exact hX _ _ _ ⟨i + 1, rfl, by omega, hc, st, rfl⟩ (by omega)
        · rw [if_neg hr] at hc
          rw [show rightC cs[i] = false by simpa using hr]; simp only [Bool.not_false, brB_true]
          exact hK _ _ ⟨by rw [← hc], st.frame (by simp)⟩
      · rw [show decide ((i : Int) < (s.len : Int)) = false by rw [l1]; exact dlt_f hlt, brB_false]
        rw [List.drop_eq_nil_of_le (by omega), checkGo] at hc
        exact hK _ _ ⟨by rw [← hc], st.frame (by simp)⟩

end Go.Proofs.S

set_option linter.unusedVariables false
set_option linter.unusedSimpArgs false
namespace Go.Proofs.S
open Go Go.Sx Go.Proofs Go.Cl

variable {h : Heap} {c d : List Int} {s s2 : Sl} {fr : Fr} {G As : List Asn} {m : List Bool} {sm : Sl}
abbrev lb (m : List Bool) (s : Sl) : Asn := rsl Ty.bool.enc m s

theorem neg_c (x : Int) : callT Try.prog fn_lits_Negated #[.int .i64 x] .bool (fun r h' => r = (rt x && decide (x < 0)) ∧ h' = h) h := by
  refine callT_gen fun K hK => S_lits_Negated (a0 := x) K ?_
  unfold F_lits_Negated
  refine call_of (lits_Right_c x) ?_
  rintro _ hq ⟨rfl, rfl⟩
  cases hx : rt x with
  | true => rw [brB_true]; exact hK _ _ ⟨by simp [hx], rfl⟩
  | false => rw [brB_false]; exact hK _ _ ⟨by simp [hx], rfl⟩

def trueIn (m : List Bool) (x : Int) : Bool := (m[(varL x - 1).toNat]?.getD false) != decide (x < 0)

abbrev inV (b : Nat) : Value := .func (.func fn_formula_in_1) #[] #[.pointer (some ⟨b, 0, none⟩)]
def failsGo (m : List Bool) : Nat → List (List Int) → Int
  | _, [] => -1
  | i, c :: cs => if c.any (trueIn m) then failsGo m (i + 1) cs else i

end Go.Proofs.S

set_option linter.unusedVariables false
namespace Go.Sx
open Go

theorem Sep.move {As : List Asn} {S : List Nat} {h : Heap} {A B A' : Asn} (hs : Sep As S h) (k kc : Nat) (hk : As[k]? = some A) (hkc : As[kc]? = some B) (hne : k ≠ kc)
    (hA : ∀ S1 S2, A.P S1 h → B.P S2 h → (∀ b ∈ S1, b ∉ S2) → A'.P (S1 ++ S2) h) : ∃ S', (∀ b, b ∈ S' ↔ b ∈ S) ∧ Sep ((As.set kc emp).set k A') S' h := by
  obtain ⟨S1, S2, hm, hd, hB, hr, hw⟩ := hs.focus kc hkc
  obtain ⟨S', hm', hs'⟩ := hw emp [] h hr rfl (by simp)
  obtain ⟨T1, T2, hmT, hdT, hA1, hrT, hwT⟩ := hs'.focus k (A := A) (by rw [List.getElem?_set, if_neg (fun e => hne e.symm)]; exact hk)
  have hsub : ∀ b, b ∈ T1 ∨ b ∈ T2 → b ∈ S2 := fun b hb => by
    have := (hm' b).1 ((hmT b).2 hb)
    rcases this with h | h
    · cases h
    · exact h
  obtain ⟨S'', hm'', hs''⟩ := hwT A' (T1 ++ S1) h hrT (hA T1 S1 hA1 hB fun b hb hin => hd b hin (hsub b (.inl hb))) fun b hb hin => by
    rcases List.mem_append.1 hb with hb | hb
    · exact hdT b hb hin
    · exact hd b hb (hsub b (.inr hin))
  refine ⟨S'', fun b => ?_, hs''⟩
  rw [hm'', List.mem_append, hm]
  have e : b ∈ S2 ↔ b ∈ T1 ∨ b ∈ T2 := by
    rw [← hmT, hm']
    constructor
    · exact .inr
    · rintro (h | h)
      · cases h
      · exact h
  rw [e]
  constructor
  · rintro ((h | h) | h)
    · exact .inr (.inl h)
    · exact .inl h
    · exact .inr (.inr h)
  · rintro (h | h | h)
    · exact .inl (.inr h)
    · exact .inl (.inl h)
    · exact .inr h

section
variable {fr : Fr} {G As : List Asn} {h h' : Heap} {A B A' : Asn} {β : Type} {I : β → Sl → Asn} {t : TypeId} {xs : List β} {s : Sl} {b : Nat}

theorem Hs.move (st : Hs fr G As h) (k kc : Nat) (hk : As[k]? = some A) (hkc : As[kc]? = some B) (hne : k ≠ kc) (hA : ∀ S1 S2, A.P S1 h → B.P S2 h → (∀ b ∈ S1, b ∉ S2) → A'.P (S1 ++ S2) h) : Hs fr G ((As.set kc emp).set k A') h := by
  obtain ⟨S, hs, hz, hf⟩ := st
  obtain ⟨S', hm, hs'⟩ := hs.move k kc hk hkc hne hA
  exact ⟨S', hs', hz.mono fun b hb => .inl ((hm b).1 hb), hf.mono fun b hb => .inl ((hm b).1 hb)⟩

def osp (I : β → Sl → Asn) (t : TypeId) (xs : List β) (qs : List Sl) (s : Sl) : Asn where
  P := fun S h => ∃ ps S1 S2, S = S1 ++ S2 ∧ (∀ b ∈ S1, b ∉ S2) ∧ (osl t Ty.sl.enc (ps ++ qs) s).P S1 h ∧ Inner I xs ps S2 h
  loc := fun {S h h'} ⟨ps, S1, S2, e, hd, hp, hi⟩ hz hk => by
    subst e
    exact ⟨ps, S1, S2, rfl, hd, (osl t Ty.sl.enc (ps ++ qs) s).loc hp hz fun b hb => hk b (List.mem_append_left _ hb), hi.loc hz fun b hb => hk b (List.mem_append_right _ hb)⟩
  cel := fun {S h} ⟨ps, S1, S2, e, hd, hp, hi⟩ b hb => by
    subst e
    rcases List.mem_append.1 hb with hb | hb
    · exact (osl t Ty.sl.enc (ps ++ qs) s).cel hp b hb
    · exact hi.cel b hb
abbrev osg (I : β → Sl → Asn) (t : TypeId) (xs : List β) (s : Sl) : Asn := osp I t xs [] s

theorem Inner.snoc : ∀ {xs : List β} {ps : List Sl} {S S2 : List Nat} {h : Heap} {x : β} {p : Sl}, Inner I xs ps S h → (I x p).P S2 h → Inner I (xs ++ [x]) (ps ++ [p]) (S ++ S2) h
  | [], [], S, S2, h, x, p, e, hp => by cases e; exact ⟨S2, [], by simp, hp, rfl⟩
  | y :: ys, q :: qs, S, S2, h, x, p, ⟨T1, T2, e, hq, hi⟩, hp => by subst e; exact ⟨T1, T2 ++ S2, by simp, hq, Inner.snoc hi hp⟩
  | [], _ :: _, _, _, _, _, _, e, _ => e.elim
  | _ :: _, [], _, _, _, _, _, e, _ => e.elim

theorem osg_rsg {S : List Nat} (p : (osg I t xs s).P S h) : (rsg I xs s).P S h := by
  obtain ⟨ps, S1, S2, e, hd, hp, hi⟩ := p
  rw [List.append_nil] at hp
  exact ⟨ps, S1, S2, e, osl_rsl hp, hi⟩
theorem At.rsg (hA : At h (osg I t xs s)) : At h (rsg I xs s) := let ⟨S, p⟩ := hA; ⟨S, osg_rsg p⟩
theorem New.rsg {n : Nat} (hA : New n h (osg I t xs s)) : New n h (rsg I xs s) := let ⟨S, p, q⟩ := hA; ⟨S, osg_rsg p, q⟩
theorem osg_nil {a : Option Addr} (n : Nat) (h : Heap) : New n h (osg I t ([] : List β) ⟨a, 0, 0⟩) := ⟨[], ⟨[], [], [], rfl, by simp, .inr ⟨rfl, rfl, rfl, rfl⟩, rfl⟩, by simp⟩
theorem Hs.nilg (st : Hs fr G As h) (I : β → Sl → Asn) (t : TypeId) (a : Option Addr) : Hs fr G (As ++ [osg I t ([] : List β) ⟨a, 0, 0⟩]) h := st.new (Ext.refl' _ _) (osg_nil _ _)

def inn (I : β → Sl → Asn) (xs : List β) (ps : List Sl) : Asn where
  P := fun S h => Inner I xs ps S h
  loc := fun p hz hk => Inner.loc p hz hk
  cel := fun p => Inner.cel p

theorem Hs.split {ι : Type} {A1 A2 : ι → Asn} (st : Hs fr G As h) (k : Nat) (hk : As[k]? = some A) (hA : ∀ S, A.P S h → ∃ i S1 S2, S = S1 ++ S2 ∧ (∀ b ∈ S1, b ∉ S2) ∧ (A1 i).P S1 h ∧ (A2 i).P S2 h) : ∃ i, Hs fr G (As.set k (A1 i) ++ [A2 i]) h := by
  obtain ⟨S, hs, hz, hf⟩ := st
  obtain ⟨S1, S2, hm, hd, hA1, hr, hw⟩ := hs.focus k hk
  obtain ⟨i, T1, T2, e, hdT, p1, p2⟩ := hA S1 hA1
  subst e
  obtain ⟨S', hm', hs'⟩ := hw (A1 i) T1 h hr p1 fun b hb => hd b (List.mem_append_left _ hb)
  have hs2 : Sep [A2 i] T2 h := ⟨T2, [], by simp, by simp, p2, rfl⟩
  have hdj : ∀ b ∈ S', b ∉ T2 := fun b hb hin => by
    rcases (hm' b).1 hb with h | h
    · exact hdT b h hin
    · exact hd b (List.mem_append_right _ hin) h
  have hsub : ∀ b ∈ S' ++ T2, b ∈ S := fun b hb => by
    rcases List.mem_append.1 hb with hb | hb
    · rcases (hm' b).1 hb with h | h
      · exact (hm b).2 (.inl (List.mem_append_left _ h))
      · exact (hm b).2 (.inr h)
    · exact (hm b).2 (.inl (List.mem_append_right _ hb))
  exact ⟨i, S' ++ T2, hs'.append hs2 hdj, hz.mono fun b hb => .inl (hsub b hb), hf.mono fun b hb => .inl (hsub b hb)⟩

theorem Hs.apdG {x : β} {p : Sl} {by_ : Nat} {z : Array Value} {K : Sl → HP} (st : Hs fr G As h) (k kx kc : Nat) (hk : As[k]? = some (osg I t xs s)) (hkx : As[kx]? = some (cl b t [.slice p.a p.len p.cap])) (hkc : As[kc]? = some (I x p))
    (hne : k ≠ kx) (hnc : k ≠ kc) (hlen : (xs.length + 1) * by_ ≤ 140737488355328) (hby : 0 < by_) (hz : z.size = 1)
    (hK : ∀ s' h', Hs fr G ((As.set k (osg I t (xs ++ [x]) s')).set kc emp) h' → K s' h') : Sx.apd t 1 by_ z s ⟨some ⟨b, 0, none⟩, 1, 1⟩ K h := by
  have hkl := (List.getElem?_eq_some_iff.1 hk).1
  have hkxl := (List.getElem?_eq_some_iff.1 hkx).1
  have hkcl := (List.getElem?_eq_some_iff.1 hkc).1
  obtain ⟨⟨ps, hl⟩, st⟩ := st.split (ι := { ps : List Sl // ps.length = xs.length }) (A1 := fun i => osl t Ty.sl.enc i.1 s) (A2 := fun i => inn I xs i.1) k hk fun S ⟨ps, S1, S2, e, hd, hp, hi⟩ => ⟨⟨ps, hi.len⟩, S1, S2, e, hd, by rw [List.append_nil] at hp; exact hp, hi⟩
  simp only at st
  refine st.apd (enc := Ty.sl.enc) (v := p) k kx (by rw [List.getElem?_append_left (by simpa using hkl), List.getElem?_set, if_pos rfl, if_pos hkl]) (by rw [List.getElem?_append_left (by simpa using hkxl), List.getElem?_set, if_neg hne]; exact hkx) hne rfl (by rw [hl]; exact hlen) hby hz fun s' h' st => ?_
  have st := st.move (A' := osp I t xs [p] s') k As.length (A := osl t Ty.sl.enc (ps ++ [p]) s') (B := inn I xs ps) (by rw [List.getElem?_set, if_pos rfl, if_pos (by simp; omega)]) (by
      rw [List.getElem?_set, if_neg (by omega), List.getElem?_append_right (by simp)]; simp) (by omega) fun S1 S2 h1 h2 hd => ⟨ps, S1, S2, rfl, hd, h1, h2⟩
  have st := st.drop As.length (A := emp) (by
      rw [List.getElem?_set, if_neg (by omega), List.getElem?_set, if_pos rfl, if_pos (by simp)])
  have e1 : (((((As.set k (osl t Ty.sl.enc ps s) ++ [inn I xs ps]).set k (osl t Ty.sl.enc (ps ++ [p]) s')).set As.length emp).set k (osp I t xs [p] s')).eraseIdx As.length) = As.set k (osp I t xs [p] s') := by
    rw [List.set_append_left _ _ (by simpa using hkl), List.set_append_right _ _ (by simp), List.set_append_left _ _ (by simpa using hkl), List.eraseIdx_append_of_length_le (by simp)]
    simp
  rw [e1] at st
  have st := st.move (A' := osg I t (xs ++ [x]) s') k kc (A := osp I t xs [p] s') (B := I x p) (by rw [List.getElem?_set, if_pos rfl, if_pos hkl]) (by rw [List.getElem?_set, if_neg hnc]; exact hkc) hnc fun S1 S2 h1 h2 hd => by
    obtain ⟨ps, T1, T2, e, hdT, hp, hi⟩ := h1
    subst e
    refine ⟨ps ++ [p], T1, T2 ++ S2, by simp, fun b hb hin => ?_, by rw [List.append_nil]; exact hp, hi.snoc h2⟩
    rcases List.mem_append.1 hin with hin | hin
    · exact hdT b hb hin
    · exact hd b (List.mem_append_left _ hb) hin
  rw [List.set_comm _ _ (fun e => hnc e.symm), List.set_set] at st
  exact hK s' h' st

end
end Go.Sx

set_option linter.unusedVariables false
set_option linter.unusedSimpArgs false
namespace Go.Proofs.S
open Go Go.Sx Go.Proofs Go.Cl

variable {h : Heap} {c d : List Int} {s s2 : Sl} {fr : Fr} {G As : List Asn} {m : List Bool} {sm : Sl}

abbrev llo (cs : List (List Int)) (s : Sl) : Asn := osg (fun c p => lo c p) ty_clauses_Clause cs s
theorem Hs.fclone_c {K : Sl → HP} (st : Hs fr G As h) (hy : At h (li c s)) (hlen : c.length ≤ 1048576) (hK : ∀ s' h', Hs fr G (As ++ [lo c s']) h' → K s' h') :
    callT Try.prog fn_slices_Clone_clauses_Clause_lits_Lit #[.slice s.a s.len s.cap] .sl K h :=
  S_slices_Clone_clauses_Clause_lits_Lit (a0 := s) K (Hs.clone (τ := i64) (t := ty_lits_Lit) (by_ := 8) (z := .int .i64 0) st hy leaf_int (by omega) (by decide) hK)

theorem ldF {b : Nat} {t : TypeId} {n : Int} {K : (Int × (Sl × Unit)) → HP} (hb : Blk h b t [.int .i64 n, .slice s.a s.len s.cap]) (hK : K (n, s, ()) h) : ldA (.cons (.int .i64) (.cons .sl .nil)) ⟨b, 0, none⟩ K h :=
  ⟨(n, s, ()), CellsAt_blk' _ hb 0 (by
    intro j hj
    match j, hj with
    | 0, _ => rfl
    | 1, _ => rfl
    | j + 2, hj => exact absurd (show j + 2 < 2 from hj) (by omega)), hK⟩

theorem copy_c {n : Int} {cs : List (List Int)} (hA : At h (lli cs s)) (hl : cs.length ≤ 1048576) (hc : ∀ c ∈ cs, c.length ≤ 1048576) :
    callT Try.prog fn_formula_Copy #[.agg #[.int .i64 n, .slice s.a s.len s.cap]] (.agg (.cons (.int .i64) (.cons .sl .nil))) (fun r h' => ∃ s', r = (n, s', ()) ∧ New h.size h' (llo cs s') ∧ Ext [] h h') h := by
  refine callT_gen fun K hK => S_formula_Copy (a0 := (n, s, ())) K ?_
  unfold F_formula_Copy
  have st := Hs.start h [lli cs s] (by simp [hA])
  have l1 := rsg_len hA
  refine st.nw fun b0 h1 st => ?_
  refine st.nw fun b1 h2 st => ?_
  simp only [addr_add, Nat.zero_add]
  rw [st.ldi 0 0 rfl rfl]
  refine st.nw fun b3 h3 st => ?_
  refine st.st1 2 0 rfl (by simp) fun h4 st => ?_
  refine st.st1 2 1 rfl (by simp) fun h5 st => ?_
  rw [st.lds 0 1 rfl rfl]
  have st := st.nilg (fun c p => lo c p) ty_clauses_Clause none
  refine lfp_invh (I := fun m σ h' => ∃ (i : Nat) (s' : Sl), σ = ((i : Int), ()) ∧ i ≤ cs.length ∧
      Hs [([], h)] [lli cs s] [cl b0 ty_formula_Formula [.int .i64 n, .slice s.a s.len s.cap], cl b1 ty_formula_Formula [.int .i64 0, .slice none 0 0], cl b3 ty_formula_Formula [.int .i64 n, .slice s'.a s'.len s'.cap], llo (cs.take i) s'] h' ∧ m = cs.length - i)
    ⟨_, 0, ⟨none, 0, 0⟩, rfl, by omega, st, rfl⟩ ?_
  clear st
  rintro m1 σ h6 X ⟨i, s', rfl, hi, st, em⟩ hX
  simp only
  by_cases hlt : i < cs.length
  · rw [show decide ((i : Int) < (s.len : Int)) = true by rw [l1]; exact dlt_t hlt, brB_true, inc_i (show i < 4611686018427387904 by omega)]
    refine rdG (st.fz 0 rfl) hlt fun p hp => ?_
    rw [st.lds 2 1 rfl rfl]
    refine Hs.fclone_c st hp (hc _ (List.getElem_mem hlt)) fun r10 h7 st => ?_
    rw [st.ck 2 1 rfl rfl]
    refine st.nw fun b11 h8 st => ?_
    refine Hs.apdG (I := fun c p => lo c p) (x := cs[i]) (p := r10) st 3 5 4 rfl rfl rfl (by decide) (by decide) (by simp; omega) (by decide) rfl fun s12 h9 st => ?_
    refine st.st1 2 1 rfl (by simp) fun h10 st => ?_
    refine hX _ _ _ ⟨i + 1, s12, rfl, by omega, ?_, rfl⟩ (by omega)
    have st := (st.drop 5 rfl).drop 4 rfl
    rw [take_succ_getE hlt]; exact st
  · rw [show decide ((i : Int) < (s.len : Int)) = false by rw [l1]; exact dlt_f hlt, brB_false]
    rw [List.take_of_length_le (by omega)] at st
    refine ldF (st.blk 2 rfl) ?_
    refine st.st1 1 0 rfl (by simp) fun h7 st => ?_
    refine st.st1 1 1 rfl (by simp) fun h8 st => ?_
    refine ldF (s := s') (st.blk 1 rfl) ?_
    exact hK _ _ ⟨s', rfl, st.res (by simp) 3 rfl, st.frame (by simp)⟩

end Go.Proofs.S

set_option linter.unusedVariables false
set_option linter.unusedSimpArgs false
namespace Go.Proofs.S
open Go Go.Sx Go.Proofs Go.Cl

variable {h : Heap} {c d : List Int} {s s2 : Sl} {fr : Fr} {G As : List Asn} {m : List Bool} {sm : Sl}

end Go.Proofs.S

set_option linter.unusedVariables false
set_option linter.unusedSimpArgs false
namespace Go.Proofs.S
open Go Go.Sx Go.Proofs Go.Cl

variable {h : Heap} {c d : List Int} {s s2 : Sl} {fr : Fr} {G As : List Asn} {m : List Bool} {sm : Sl}

end Go.Proofs.S

set_option linter.unusedVariables false
set_option linter.unusedSimpArgs false
namespace Go.Proofs.S
open Go Go.Sx Go.Proofs Go.Cl

variable {h : Heap} {c d : List Int} {s s2 : Sl} {fr : Fr} {G As : List Asn} {m : List Bool} {sm : Sl}

end Go.Proofs.S
