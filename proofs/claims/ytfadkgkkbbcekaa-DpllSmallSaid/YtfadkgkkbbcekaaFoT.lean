/-
  The next model, by the reference; the least clause that is greater. No program here.
-/
import Derived.Test.YtfadkgkkbbcekaaCrQ
import Derived.Test.YtfadkgkkbbcekaaClT
import Derived.Test.YtfadkgkkbbcekaaSxSg
import Derived.Test.YtfadkgkkbbcekaaFoO
set_option linter.unusedVariables false
set_option linter.unusedSimpArgs false
namespace Go.Cr
open Go

theorem allB_zero (n : Nat) : (allB n)[0]? = some (List.replicate n false) := by
  induction n with
  | zero => rfl
  | succ n ih =>
    have hl := allB_len n
    have : 0 < (allB n).length := by rw [hl]; exact Nat.pos_of_ne_zero (by simp)
    rw [allB, List.getElem?_append_left (by simpa using this), List.getElem?_map, ih]
    rfl
end Go.Cr

set_option linter.unusedVariables false
namespace Go.Sx
open Go

theorem brT {b : Bool} {A B : HP} {h : Heap} (e : b = true) (hA : A h) : brB b A B h := by subst e; exact hA
theorem brF {b : Bool} {A B : HP} {h : Heap} (e : b = false) (hB : B h) : brB b A B h := by subst e; exact hB

section
variable {fr : Fr} {G As : List Asn} {h h' : Heap} {A : Asn}

theorem Hs.beside (st : Hs fr G As h) : Hs [([], h)] G [] h ∧ ∀ Bs h', Hs [([], h)] G Bs h' → Hs fr G (As ++ Bs) h' := by
  obtain ⟨S, hs, hz, hf⟩ := st
  refine ⟨⟨[], rfl, fun B hB => let ⟨SB, pB, _⟩ := hz B hB; ⟨SB, pB, by simp⟩, fun p hp => ?_⟩, ?_⟩
  · simp at hp; subst hp; exact ⟨Ext.refl' _ _, fun b hb => by cases hb⟩
  · rintro Bs h' ⟨SB, hB', hz', hf'⟩
    obtain ⟨x, hin⟩ := hf' ([], h) (by simp)
    have hnew : ∀ b ∈ SB, h.size ≤ b := fun b hb => (hin b hb).elim (fun k => by cases k) id
    have hlt : ∀ b ∈ S, b < h.size := fun b hb => (hs.cel b hb).lt
    have hSS : ∀ b ∈ S ++ SB, b ∈ S ∨ h.size ≤ b := fun b hb => (List.mem_append.1 hb).imp id (hnew b)
    refine ⟨S ++ SB, (hs.keep x.1 fun b hb => x.2 b (hlt b hb) (by simp)).append hB' (fun b hb hi => by have := hlt b hb; have := hnew b hi; omega), (hz.mono hSS).ext x (by simp), (hf.mono hSS).ext x (by simp)⟩

theorem Hs.fzm (st : Hs fr G As h) (hA : A ∈ G) : At h A := by
  obtain ⟨k, hk⟩ := List.getElem?_of_mem hA
  exact st.fz k hk

theorem Hs.froz {α : Type} {t : TypeId} {enc : α → Value} {xs : List α} {s : Sl} (st : Hs fr G As h) (k : Nat) (hk : As[k]? = some (osl t enc xs s)) : Hs fr (G ++ [rsl enc xs s]) (As.eraseIdx k) h := by
  have st := st.freeze k hk
  have st := st.gain (B := rsl enc xs s) G.length (A := osl t enc xs s) (by simp) fun S h p => ⟨S, osl_rsl p, fun b hb => hb⟩
  exact st.less fun A hA => by
    rcases List.mem_append.1 hA with h | h
    · exact List.mem_append_left _ (List.mem_append_left _ h)
    · exact List.mem_append_right _ h
end
end Go.Sx

set_option linter.unusedVariables false
set_option linter.unusedSimpArgs false
namespace Go.Proofs.S
open Go Go.Sx Go.Proofs Go.Cl

variable {h : Heap} {c d : List Int} {s s2 : Sl} {fr : Fr} {G As : List Asn} {m : List Bool} {sm : Sl} {cs ds : List (List Int)} {n n2 : Int}

abbrev oii (cs : List (List Int)) (s : Sl) : Asn := osg (fun c p => io c p) ty_sl_int cs s
theorem oii_at (hA : At h (oii cs s)) : At h (lli cs s) := rsgA_mono (fun c p S h q => osl_rsl q) (At.rsg hA)
theorem theirs_c (hA : At h (lli cs s)) (hl : cs.length ≤ 1048576) (hc : ∀ c ∈ cs, c.length ≤ 1048576) :
    callT Try.prog fn_salvorlaw05_Theirs #[.agg #[.int .i64 n, .slice s.a s.len s.cap]] (.agg (.cons (.int .i64) (.cons .sl .nil))) (fun r h' => ∃ s', r = (n, s', ()) ∧ New h.size h' (oii cs s') ∧ Ext [] h h') h := by
  refine callT_gen fun K hK => S_salvorlaw05_Theirs (a0 := (n, s, ())) K ?_
  unfold F_salvorlaw05_Theirs
  have st := Hs.start h [lli cs s] (by simp [hA])
  have l1 := rsg_len hA
  refine st.nw fun b0 h1 st => ?_
  refine st.nw fun b1 h2 st => ?_
  simp only [List.nil_append, List.cons_append] at st
  rw [st.ldi 0 0 rfl rfl]
  refine st.nw fun b3 h3 st => ?_
  simp only [addr_add, Nat.zero_add, List.nil_append, List.cons_append] at st ⊢
  refine st.st1 2 0 rfl (by simp) fun h4 st => ?_
  refine st.st1 2 1 rfl (by simp) fun h5 st => ?_
  simp only [List.set_cons_zero, List.set_cons_succ] at st
  rw [st.lds 0 1 rfl rfl]
  have st := st.nilg (fun c p => io c p) ty_sl_int none
  simp only [List.nil_append, List.cons_append] at st
  refine lfp_invh (I := fun m σ h' => ∃ (i : Nat) (s' : Sl), σ = ((i : Int), ()) ∧ i ≤ cs.length ∧
      Hs [([], h)] [lli cs s] [cl b0 ty_formula_Formula [.int .i64 n, .slice s.a s.len s.cap], cl b1 ty_salvorref05_Formula [.int .i64 0, .slice none 0 0], cl b3 ty_salvorref05_Formula [.int .i64 n, .slice s'.a s'.len s'.cap], oii (cs.take i) s'] h' ∧ m = cs.length - i)
    ⟨_, 0, ⟨none, 0, 0⟩, rfl, by omega, st, rfl⟩ ?_
  clear st
  rintro m1 σ h6 X ⟨i, s', rfl, hi, st, em⟩ hX
  simp only
  by_cases hlt : i < cs.length
  · rw [show decide ((i : Int) < (s.len : Int)) = true by rw [l1]; exact dlt_t hlt, brB_true, inc_i (show i < 4611686018427387904 by omega)]
    refine rdG (st.fz 0 rfl) hlt fun p hp => ?_
    rw [st.lds 2 1 rfl rfl]
    refine call_of (ints_c hp (hc _ (List.getElem_mem hlt))) ?_
    rintro r7 h7 ⟨n7, x7⟩
    have st := st.new x7 n7
    simp only [List.nil_append, List.cons_append] at st
    rw [st.ck 2 1 rfl rfl]
    refine st.nw fun b8 h8 st => ?_
    simp only [List.nil_append, List.cons_append] at st
    refine Hs.apdG (I := fun c p => io c p) (x := cs[i]) (p := r7) st 3 5 4 rfl rfl rfl (by decide) (by decide) (by simp; omega) (by decide) rfl fun s9 h9 st => ?_
    simp only [List.set_cons_zero, List.set_cons_succ] at st
    refine st.st1 2 1 rfl (by simp) fun h10 st => ?_
    simp only [List.set_cons_zero, List.set_cons_succ] at st
    refine hX _ _ _ ⟨i + 1, s9, rfl, by omega, ?_, rfl⟩ (by omega)
    rw [take_succ_getE hlt]; exact (st.drop 5 rfl).drop 4 rfl
  · rw [show decide ((i : Int) < (s.len : Int)) = false by rw [l1]; exact dlt_f hlt, brB_false]
    rw [List.take_of_length_le (by omega)] at st
    refine ldF (s := s') (st.blk 2 rfl) ?_
    refine st.st1 1 0 rfl (by simp) fun h7 st => ?_
    refine st.st1 1 1 rfl (by simp) fun h8 st => ?_
    refine ldF (s := s') (st.blk 1 rfl) ?_
    exact hK _ _ ⟨s', rfl, st.res (by simp) 3 rfl, st.frame (by simp)⟩

theorem equal1F {p q : Sl} (hA : At h (li c p)) (hB : At h (li d q)) (hl : c.length ≤ 1048576) : callF Try.prog (.func (.func fn_salvorlaw05_Equal_1) #[] #[]) #[.slice p.a p.len p.cap, .slice q.a q.len q.cap] .bool (fun r h' => r = decide (c = d) ∧ Ext [] h h') h := by
  refine callF_func (callT_gen fun K hK => S_salvorlaw05_Equal_1 (a0 := p) (a1 := q) K ?_)
  unfold F_salvorlaw05_Equal_1
  refine call_of (ints_c hA hl) ?_
  rintro r0 h1 ⟨n1, x1⟩
  refine call_of (equal_int n1.at.rsl (hB.ext x1) (by omega)) ?_
  rintro r h2 ⟨e, rfl⟩
  exact hK _ _ ⟨e, x1⟩

theorem lawEqual_c (hA : At h (lli cs s)) (hB : At h (lli ds s2)) (hl : cs.length ≤ 1048576) (hc : ∀ c ∈ cs, c.length ≤ 1048576) :
    callT Try.prog fn_salvorlaw05_Equal #[.agg #[.int .i64 n, .slice s.a s.len s.cap], .agg #[.int .i64 n2, .slice s2.a s2.len s2.cap]] .bool (fun r h' => r = decide (n = n2 ∧ cs = ds) ∧ Ext [] h h') h := by
  refine callT_gen fun K hK => S_salvorlaw05_Equal (a0 := (n, s, ())) (a1 := (n2, s2, ())) K ?_
  unfold F_salvorlaw05_Equal
  have st := Hs.start h [lli cs s, lli ds s2] (by simp [hA, hB])
  refine st.nw fun b0 h1 st => ?_
  refine st.nw fun b1 h2 st => ?_
  simp only [List.nil_append, List.cons_append] at st
  rw [st.ldi 0 0 rfl rfl, st.ldi 1 0 rfl rfl]
  by_cases hn : n = n2
  · refine brT (by simpa using hn) ?_
    rw [addr_add, addr_add, st.lds 0 1 rfl rfl, st.lds 1 1 rfl rfl]
    refine S_slices_EqualFunc_clauses_Clause_int_clauses_Clause_int (a0 := s) (a1 := s2) (a2 := .func (.func fn_salvorlaw05_Equal_1) #[] #[]) _ ?_
    have x2 : Ext [] h h2 := st.frame (by simp)
    refine w_equalFuncG (P := Try.prog) (I := fun c p => li c p) (J := fun c p => li c p) (r := fun c d => decide (c = d)) (st.fz 0 rfl) (st.fz 1 rfl) (by omega) (fun x hx y hy p q h' xx hp hq => equal1F hp hq (hc x hx)) fun b h' hb xx => hK _ _ ⟨?_, x2.nil_trans xx⟩
    rw [Bool.eq_iff_iff, hb, decide_eq_true_iff]
    constructor
    · rintro ⟨h1, h2⟩
      exact ⟨hn, List.ext_getElem h1 fun i h3 h4 => by simpa using h2 i h3 h4⟩
    · rintro ⟨_, rfl⟩
      exact ⟨rfl, fun i h1 h2 => by simp⟩
  · refine brF (by simpa using hn) (hK _ _ ⟨?_, st.frame (by simp)⟩)
    rw [decide_eq_false (fun q => hn q.1)]

theorem checkGo_at {i k : Nat} : checkGo n k (cs.drop i) = match cs[i]? with
    | none => (-1, 0)
    | some c => if rightC c then (if c.any (beyP n) then ((k : Int), 51) else checkGo n (k + 1) (cs.drop (i + 1))) else ((k : Int), 20) := by
  by_cases hi : i < cs.length
  · rw [List.drop_eq_getElem_cons hi, List.getElem?_eq_getElem hi]; rfl
  · rw [List.drop_eq_nil_of_le (by omega), List.getElem?_eq_none (by omega)]; rfl

theorem rcheck_c (hA : At h (lli cs s)) (hc : ∀ c ∈ cs, c.length ≤ 1099511627776) :
    callT Try.prog fn_salvorref05_Check #[.agg #[.int .i64 n, .slice s.a s.len s.cap]] (.tup (.cons (.int .i64) (.cons (.int .i64) .nil))) (fun r h' => r = ((checkP n cs).1, (checkP n cs).2, ()) ∧ Ext [] h h') h := by
  refine callT_gen fun K hK => S_salvorref05_Check (a0 := (n, s, ())) K ?_
  unfold F_salvorref05_Check
  have st := Hs.start h [lli cs s] (by simp [hA])
  have l1 := rsg_len hA
  refine st.nw fun b0 h1 st => ?_
  simp only [List.nil_append, addr_add, Nat.zero_add] at st ⊢
  rw [st.ldi 0 0 rfl rfl]
  refine jn_in fun J hJ => ?_
  have fin : ∀ t : Bool, t = !varsP n → J t h1 := by
    rintro t rfl
    refine hJ _ _ ?_
    cases hv : varsP n
    · refine brT rfl (hK _ _ ⟨by unfold checkP; rw [hv]; rfl, st.frame (by simp)⟩)
    refine brF rfl ?_
    rw [st.lds 0 1 rfl rfl]
    by_cases hm : cs.length > 262144
    · refine brT (by rw [l1]; exact decide_eq_true (by omega)) (hK _ _ ⟨by unfold checkP; rw [hv, if_pos rfl, if_pos hm], st.frame (by simp)⟩)
    refine brF (by rw [l1]; exact decide_eq_false (by omega)) ?_
    have e0 : checkP n cs = checkGo n 0 cs := by unfold checkP; rw [hv, if_pos rfl, if_neg hm]
    rw [e0] at hK
    clear hJ J
    refine lfp_invh (I := fun μ σ h' => ∃ (i : Nat) (x y : Int), σ = ((i : Int), x, y, ()) ∧ i ≤ cs.length ∧ checkGo n i (cs.drop i) = checkGo n 0 cs ∧ Hs [([], h)] [lli cs s] [cl b0 ty_salvorref05_Formula [.int .i64 n, .slice s.a s.len s.cap]] h' ∧ μ = cs.length - i)
      ⟨_, 0, 0, 0, rfl, by omega, rfl, st, rfl⟩ ?_
    clear st
    rintro μ σ h' X ⟨i, x, y, rfl, hi, hg, st, rfl⟩ hX
    simp only
    rw [st.lds 0 1 rfl rfl]
    rw [checkGo_at] at hg
    by_cases hlt : i < cs.length
    · refine brT (by rw [l1]; exact decide_eq_true (by omega)) ?_
      rw [List.getElem?_eq_getElem hlt] at hg
      simp only at hg
      rw [st.lds 0 1 rfl rfl]
      refine rdG (st.fz 0 rfl) hlt fun p hp => ?_
      refine call_of (r2_right_c hp (hc _ (List.getElem_mem hlt))) ?_
      rintro _ h3 ⟨rfl, e⟩; subst e
      cases hr : rightC cs[i]
      · rw [hr] at hg
        refine brT rfl (hK _ _ ⟨?_, st.frame (by simp)⟩)
        rw [← hg]; rfl
      rw [hr, if_pos rfl] at hg
      refine brF rfl ?_
      have hlc := rightC_len hr
      have lp := rsl_len hp
      refine lfp_invh (I := fun μ σ h2 => ∃ (k : Nat) (x y : Int), σ = ((k : Int), x, y, ()) ∧ k ≤ cs[i].length ∧ (∀ j (hj : j < cs[i].length), j < k → beyP n cs[i][j] = false) ∧ h2 = h3 ∧ μ = cs[i].length - k)
        ⟨_, 0, x, y, rfl, by omega, fun j _ hj => by omega, rfl, rfl⟩ ?_
      rintro μ σ h2 X2 ⟨k, x, y, rfl, hk, hb, rfl, rfl⟩ hX2
      simp only
      by_cases hlt2 : k < cs[i].length
      · refine brT (by rw [lp]; exact decide_eq_true (by omega)) ?_
        refine rdE (τ := i64) hp hlt2 ?_
        rw [st.ldi 0 0 rfl rfl]
        refine call_of (rvar_c cs[i][k]) ?_
        rintro _ h4 ⟨rfl, e⟩; subst e
        rw [st.ck 0 0 rfl rfl]
        have hrt := rightC_rt hr _ (List.getElem_mem hlt2)
        have eb : beyP n cs[i][k] = decide (varL cs[i][k] > n) := by unfold beyP; rw [hrt]; rfl
        by_cases hv2 : varL cs[i][k] > n
        · refine brT (decide_eq_true hv2) (hK _ _ ⟨?_, st.frame (by simp)⟩)
          have : cs[i].any (beyP n) = true := List.any_eq_true.2 ⟨_, List.getElem_mem hlt2, by rw [eb]; exact decide_eq_true hv2⟩
          rw [this, if_pos rfl] at hg
          rw [← hg]
        · refine brF (decide_eq_false hv2) ?_
          rw [inc_i (by omega)]
          refine hX2 _ _ _ ⟨k + 1, x, y, rfl, by omega, fun j hj hjk => ?_, rfl, rfl⟩ (by omega)
          rcases Nat.lt_succ_iff_lt_or_eq.1 hjk with q | rfl
          · exact hb j hj q
          · rw [eb]; exact decide_eq_false hv2
      · refine brF (by rw [lp]; exact decide_eq_false (by omega)) ?_
        have : cs[i].any (beyP n) = false := by
          rw [Bool.eq_false_iff]
          intro q
          obtain ⟨z, hz, hbz⟩ := List.any_eq_true.1 q
          obtain ⟨j, hj, rfl⟩ := List.mem_iff_getElem.1 hz
          rw [hb j hj (by omega)] at hbz; cases hbz
        rw [this] at hg
        rw [inc_i (by omega)]
        exact hX _ _ _ ⟨i + 1, x, y, rfl, by omega, hg, st, rfl⟩ (by omega)
    · refine brF (by rw [l1]; exact decide_eq_false (by omega)) (hK _ _ ⟨?_, st.frame (by simp)⟩)
      rw [List.getElem?_eq_none (by omega)] at hg
      rw [← hg]
  by_cases h0 : n < 0
  · refine brT (decide_eq_true h0) (fin _ ?_)
    unfold varsP; simp; omega
  · refine brF (decide_eq_false h0) ?_
    rw [st.ldi 0 0 rfl rfl]
    refine fin _ ?_
    unfold varsP
    simp only [Bool.not_and, ← decide_not, Int.not_le]
    rw [decide_eq_false h0, Bool.false_or]

end Go.Proofs.S
