/-
  More of the library's functions over slices: Grow from nil, Concat, cmp.Or. Nothing here names a program.
-/
import Derived.Test.YtfadkgkkbbcekaaSxW2
import Derived.Test.YtfadkgkkbbcekaaClD
set_option linter.unusedVariables false
namespace Go.Sx
open Go

section
variable {P : Program} {τ : Ty} {t : TypeId} {h h' : Heap} {xs ys : List τ.T} {s s2 : Sl} {fr : Fr} {G As : List Asn} {by_ : Nat} {z : Value}

def W_grow (t : TypeId) (by_ : Nat) (z : Value) (a0 : Sl) (a1 : Int) (K : Sl → HP) : HP :=
  jn (σ := Unit) (fun s1 => jn (σ := Sl × Unit) (fun s3 => K ⟨s3.1.a, s3.1.len, s3.1.cap⟩)
    (fun J2 => brB (decide ((IntKind.wrap .i64 (a1 - (IntKind.wrap .i64 ((a0.cap : Int) - (a0.len : Int))))) > (0 : Int)))
      (slH ⟨a0.a, a0.len, a0.cap⟩ (a0.cap : Int) 1 fun s4 => apz t 1 by_ #[z] ⟨s4.a, s4.len, s4.cap⟩ (IntKind.wrap .i64 (a1 - (IntKind.wrap .i64 ((a0.cap : Int) - (a0.len : Int))))) fun s5 =>
        slH ⟨s5.a, s5.len, s5.cap⟩ (a0.len : Int) 1 fun s6 => J2 (⟨s6.a, s6.len, s6.cap⟩, ()))
      (J2 (⟨a0.a, a0.len, a0.cap⟩, ()))))
  (fun J0 => brB (decide (a1 < (0 : Int))) fF (J0 (())))

theorem w_grow_nil {n : Nat} (hn : n * by_ ≤ 140737488355328) (hby : 0 < by_) {K : Sl → HP} (hK : ∀ s' h', New h.size h' (osl t τ.enc [] s') → Ext [] h h' → K s' h') : W_grow t by_ z ⟨none, 0, 0⟩ (n : Int) K h := by
  have hn2 : n ≤ 140737488355328 := Nat.le_trans (Nat.le_mul_of_pos_right n hby) hn
  have e0 : IntKind.wrap .i64 (((⟨none, 0, 0⟩ : Sl).cap : Int) - ((⟨none, 0, 0⟩ : Sl).len : Int)) = 0 := rfl
  refine jn_in fun J0 hJ0 => ?_
  have e1 : decide ((n : Int) < 0) = false := decide_eq_false (by omega)
  rw [e1, brB_false]
  refine hJ0 _ _ ?_
  refine jn_in fun J2 hJ2 => ?_
  rw [e0, Int.sub_zero, wrap_i64 (by omega) (by omega)]
  by_cases h0 : n = 0
  · subst h0
    rw [show decide (((0 : Nat) : Int) > 0) = false from rfl, brB_false]
    exact hJ2 _ _ (hK _ _ (osl_nil _ _) (Ext.refl' _ _))
  · have e2 : decide ((n : Int) > 0) = true := by simp; omega
    rw [e2, brB_true]
    refine ⟨Int.le_refl _, Int.le_refl _, ?_⟩
    have e3 : slR ⟨none, 0, 0⟩ 0 (Int.toNat ((⟨none, 0, 0⟩ : Sl).cap : Int)) 1 = ⟨none, 0, 0⟩ := rfl
    rw [e3]
    refine ⟨by omega, ?_, hby, by decide, fun hle => ?_, fun hgt => ⟨?_, [], rfl, fun nc h1 h2 => ?_⟩⟩
    · have : ((n : Int) * (by_ : Int)) = ((n * by_ : Nat) : Int) := by simp
      rw [this]; omega
    · simp only [Int.toNat_natCast] at hle; omega
    · simpa using hn
    · simp only [Int.toNat_natCast, Nat.zero_add] at h1 ⊢
      refine ⟨Int.le_refl _, Int.natCast_nonneg _, hJ2 _ _ (hK _ _ ⟨[h.size], .inl ⟨h.size, (Builtin.zeroCells #[z] n).toList ++ (Builtin.zeroCells #[z] (nc - n)).toList, rfl, ?_, ?_⟩, by simp⟩ ((Ext.refl' [] h).push _))⟩
      · have hz : nc ≠ 0 := by omega
        have e5 : n + (nc - n) = nc := by omega
        simp [slR, hz, Builtin.zeroCells, Addr.add, e5]
      · have := Blk.new h t ((([] : List Value).toArray ++ (if n * 1 = 0 then #[] else Builtin.zeroCells #[z] n)) ++ Builtin.zeroCells #[z] (nc - n))
        have e4 : (if n * 1 = 0 then (#[] : Array Value) else Builtin.zeroCells #[z] n) = Builtin.zeroCells #[z] n := by rw [if_neg (by omega)]
        rw [e4] at this ⊢
        simpa using this

def W_concat (P : Program) (τ : Ty) (t : TypeId) (by_ : Nat) (z : Value) (fg : FuncId) (a0 : Sl) (K : Sl → HP) : HP :=
  lfp (σ := (Int × (Int × Unit))) (fun X0 s1 => brB (decide (s1.1 < (a0.len : Int)))
    (sx a0.a a0.len s1.1 1 fun p2 => ldT .sl p2 fun x3 => jn (σ := Unit) (fun s5 => X0 ((IntKind.wrap .i64 (s1.1 + (1 : Int))), (IntKind.wrap .i64 (s1.2.1 + (x3.len : Int))), ()))
      (fun J4 => brB (decide ((IntKind.wrap .i64 (s1.2.1 + (x3.len : Int))) < (0 : Int))) fF (J4 (()))))
    (callT P fg #[(.slice none 0 0), (.int .i64 s1.2.1)] .sl fun r6 =>
      lfp (σ := (Int × (Sl × Unit))) (fun X7 s8 => brB (decide (s8.1 < (a0.len : Int)))
        (sx a0.a a0.len s8.1 1 fun p9 => ldT .sl p9 fun x10 => apd t 1 by_ #[z] ⟨s8.2.1.a, s8.2.1.len, s8.2.1.cap⟩ ⟨x10.a, x10.len, x10.cap⟩ fun s11 => X7 ((IntKind.wrap .i64 (s8.1 + (1 : Int))), ⟨s11.a, s11.len, s11.cap⟩, ()))
        (K ⟨s8.2.1.a, s8.2.1.len, s8.2.1.cap⟩))
      ((0 : Int), ⟨r6.a, r6.len, r6.cap⟩, ()))) ((0 : Int), (0 : Int), ())

theorem flat_take_succ {α : Type} {xss : List (List α)} {i : Nat} (hi : i < xss.length) : (xss.take (i + 1)).flatten = (xss.take i).flatten ++ xss[i] := by
  rw [take_succ_getE hi, List.flatten_append]; simp
theorem flat_take_le {α : Type} (xss : List (List α)) (i : Nat) : (xss.take i).flatten.length ≤ xss.flatten.length := by
  have e := congrArg (fun l : List (List α) => l.flatten.length) (List.take_append_drop i xss)
  simp only [List.flatten_append, List.length_append] at e; omega

theorem w_concat {fg : FuncId} {ps : List Sl} {xss : List (List τ.T)} (hp : At h (rsl Ty.sl.enc ps s)) (hlen : xss.length = ps.length) (hx : ∀ i (hi : i < ps.length), At h (rsl τ.enc (xss[i]'(by omega)) ps[i]))
    (hl : ps.length ≤ 1099511627776) (htot : xss.flatten.length * by_ ≤ 140737488355328) (hby : 0 < by_) (hleaf : Leaf τ)
    (hg : ∀ (n : Int) (K : Sl → HP) (h : Heap), W_grow t by_ z ⟨none, 0, 0⟩ n K h → callT P fg #[.slice none 0 0, .int .i64 n] .sl K h) {K : Sl → HP}
    (hK : ∀ s' h', New h.size h' (osl t τ.enc xss.flatten s') → Ext [] h h' → K s' h') : W_concat P τ t by_ z fg s K h := by
  have l1 := rsl_len hp
  have htot2 : xss.flatten.length ≤ 140737488355328 := Nat.le_trans (Nat.le_mul_of_pos_right _ hby) htot
  refine lfp_invh (I := fun m σ h' => ∃ i : Nat, σ = ((i : Int), ((xss.take i).flatten.length : Int), ()) ∧ i ≤ ps.length ∧ h' = h ∧ m = ps.length - i) ⟨_, 0, rfl, by omega, rfl, rfl⟩ ?_
  rintro m σ h' X ⟨i, rfl, hi, rfl, em⟩ hX
  by_cases hlt : i < ps.length
  · simp only
    rw [show decide ((i : Int) < (s.len : Int)) = true by rw [l1]; exact dlt_t hlt, brB_true, inc_i (show i < 4611686018427387904 by omega)]
    refine rdE (τ := .sl) hp hlt ?_
    have hl2 := rsl_len (hx i hlt)
    have e1 := flat_take_succ (xss := xss) (i := i) (by omega)
    have e2 := flat_take_le xss (i + 1)
    have e3 : IntKind.wrap .i64 (((xss.take i).flatten.length : Int) + (ps[i].len : Int)) = ((xss.take (i + 1)).flatten.length : Int) := by
      rw [e1, List.length_append]
      rw [e1, List.length_append] at e2
      rw [hl2, wrap_i64 (by omega) (by omega)]; omega
    rw [e3]
    refine jn_in fun J hJ => ?_
    have e4 : decide (((xss.take (i + 1)).flatten.length : Int) < 0) = false := decide_eq_false (by omega)
    rw [e4, brB_false]
    exact hJ _ _ (hX _ _ _ ⟨i + 1, rfl, by omega, rfl, rfl⟩ (by omega))
  · simp only
    rw [show decide ((i : Int) < (s.len : Int)) = false by rw [l1]; exact dlt_f hlt, brB_false]
    rw [List.take_of_length_le (by omega)]
    refine hg _ _ _ (w_grow_nil (τ := τ) htot hby fun s' h1 n1 x1 => ?_)
    have st := (Hs.start h' [] (by simp)).new x1 n1
    clear hX
    refine lfp_invh (I := fun m σ h2 => ∃ (i : Nat) (s' : Sl), σ = ((i : Int), s', ()) ∧ i ≤ ps.length ∧ Hs [([], h')] [] [osl t τ.enc (xss.take i).flatten s'] h2 ∧ m = ps.length - i) ⟨_, 0, s', rfl, by omega, by simpa using st, rfl⟩ ?_
    clear st n1 x1
    rintro m σ h2 X ⟨i, s', rfl, hi, st, em⟩ hX
    by_cases hlt : i < ps.length
    · simp only
      rw [show decide ((i : Int) < (s.len : Int)) = true by rw [l1]; exact dlt_t hlt, brB_true, inc_i (show i < 4611686018427387904 by omega)]
      refine rdE (τ := .sl) (hp.ext (st.frame (by simp))) hlt ?_
      have e1 := flat_take_succ (xss := xss) (i := i) (by omega)
      have e2 := flat_take_le xss (i + 1)
      refine st.apdS 0 rfl ((hx i hlt).ext (st.frame (by simp))) hleaf ?_ hby fun s3 h3 st => ?_
      · rw [e1, List.length_append] at e2
        exact Nat.le_trans (Nat.mul_le_mul_right _ e2) htot
      · refine hX _ _ _ ⟨i + 1, s3, rfl, by omega, ?_, rfl⟩ (by omega)
        rw [e1]; exact st
    · simp only
      rw [show decide ((i : Int) < (s.len : Int)) = false by rw [l1]; exact dlt_f hlt, brB_false]
      rw [List.take_of_length_le (by omega)] at st
      exact hK _ _ (st.res (by simp) 0 rfl) (st.frame (by simp))

def orP : List Int → Int
  | [] => 0
  | x :: xs => if x ≠ 0 then x else orP xs

def W_or (s : Sl) (K : Int → HP) : HP :=
  lfp (σ := Int × Int × Unit) (fun X0 s1 => brB (decide (s1.1 < (s.len : Int)))
    (sx s.a s.len s1.1 1 fun p2 => ldT (.int .i64) p2 fun x3 => brB (x3 != (0 : Int)) (K x3) (X0 ((IntKind.wrap .i64 (s1.1 + (1 : Int))), s1.2.1, ())))
    (K (0 : Int))) ((0 : Int), (0 : Int), ())

theorem w_or {xs : List Int} (hA : At h (rsl (Ty.int .i64).enc xs s)) (hl : xs.length ≤ 1099511627776) {K : Int → HP} (hK : K (orP xs) h) : W_or s K h := by
  have l1 := rsl_len hA
  refine lfp_invh (I := fun m σ h' => ∃ i : Nat, σ = ((i : Int), 0, ()) ∧ i ≤ xs.length ∧ orP (xs.drop i) = orP xs ∧ h' = h ∧ m = xs.length - i) ⟨_, 0, rfl, by omega, rfl, rfl, rfl⟩ ?_
  rintro m σ h' X ⟨i, rfl, hi, hp, rfl, em⟩ hX
  by_cases hlt : i < xs.length
  · simp only
    rw [show decide ((i : Int) < (s.len : Int)) = true by rw [l1]; exact dlt_t hlt, brB_true, inc_i (show i < 4611686018427387904 by omega)]
    refine rdE (τ := .int .i64) hA hlt ?_
    rw [List.drop_eq_getElem_cons hlt, orP] at hp
    by_cases h0 : xs[i] = 0
    · rw [show (xs[i] != 0) = false by simp [h0], brB_false]
      rw [if_neg (by simp [h0])] at hp
      exact hX _ _ _ ⟨i + 1, rfl, by omega, hp, rfl, rfl⟩ (by omega)
    · rw [show (xs[i] != 0) = true by simp [h0], brB_true]
      rw [if_pos h0] at hp
      rw [hp]; exact hK
  · simp only
    rw [show decide ((i : Int) < (s.len : Int)) = false by rw [l1]; exact dlt_f hlt, brB_false]
    rw [List.drop_eq_nil_of_le (by omega)] at hp
    rw [show (0 : Int) = orP xs from hp]; exact hK

theorem Hs.wrE (st : Hs fr G As h) (k : Nat) (hk : As[k]? = some (osl t τ.enc xs s)) {i : Nat} (hi : i < xs.length) (v : τ.T) {K : HP} (hK : ∀ h', Hs fr G (As.set k (osl t τ.enc (xs.set i v) s)) h' → K h') :
    sx s.a s.len (i : Int) 1 (fun p => Sx.st1 p (τ.enc v) K) h := by
  obtain ⟨S1, p, hw⟩ := st.focus k hk
  rcases p with ⟨b, rest, eS, es, hb⟩ | ⟨_, ex, _⟩
  · subst es
    refine ⟨_, rfl, by omega, Int.ofNat_lt.2 hi, ?_⟩
    rw [Int.toNat_natCast, Nat.mul_one, addr_add]
    show Sx.st1 _ _ _ _
    rw [st_ok hb (by simp; omega)]
    have hb2 := hb.set (0 + i) (τ.enc v)
    have e3 : (xs.map τ.enc ++ rest).set (0 + i) (τ.enc v) = (xs.set i v).map τ.enc ++ rest := by
      rw [List.set_append_left _ _ (by simp; omega)]; simp
    rw [e3] at hb2
    exact hK _ (hw _ [b] _ ((Ext.refl' S1 h).set _ _ (by simp [eS])) (.inl ⟨b, rest, rfl, by simp, hb2⟩) (by simp [eS]))
  · subst ex; simp at hi

theorem addr_add_add (a : Addr) (l i : Nat) : (a.add l).add i = a.add (l + i) := by
  unfold Addr.add
  by_cases h1 : l = 0
  · subst h1; simp
  · by_cases h2 : i = 0
    · subst h2; simp
    · simp [h1, h2, Nat.add_assoc]

theorem rsl_sub {α : Type} {enc : α → Value} {xs : List α} {s : Sl} (hA : At h (rsl enc xs s)) {l m : Nat} (hlm : l ≤ m) (hm : m ≤ xs.length) : At h (rsl enc ((xs.take m).drop l) (slR s l m 1)) := by
  obtain ⟨S, e1, e2, k⟩ := hA
  have hlen : ((xs.take m).drop l).length = m - l := by simp; omega
  by_cases hml : m = l
  · subst hml
    refine ⟨[], by simp [slR], by simp [slR], .inl ⟨by simp, rfl⟩⟩
  · rcases k with ⟨ex, _⟩ | ⟨a, ea, eS, hc, hx⟩
    · subst ex; simp at hm; omega
    · have e3 : ¬ s.cap = l := by omega
      refine ⟨[a.block], by rw [hlen]; rfl, by simp [slR]; omega, .inr ⟨a.add (l * 1), by simp [slR, e3, ea], by unfold Addr.add; split <;> rfl, ?_, fun i x hi => ?_⟩⟩
      · have eb : (a.add (l * 1)).block = a.block := by unfold Addr.add; split <;> rfl
        rw [eb]; exact hc
      · rw [List.getElem?_drop, List.getElem?_take] at hi
        split at hi
        · have := hx (l + i) x hi
          rw [Nat.mul_one, addr_add_add]; exact this
        · cases hi

end
end Go.Sx

set_option linter.unusedVariables false
namespace Go.Proofs.S
open Go Go.Sx Go.Proofs Go.Cl

variable {h : Heap} {c d : List Int} {s s2 : Sl} {fr : Fr} {G As : List Asn}

theorem grow_c {n : Int} {K : Sl → HP} (hW : W_grow ty_lits_Lit 8 (.int .i64 0) ⟨none, 0, 0⟩ n K h) : callT Try.prog fn_slices_Grow_clauses_Clause_lits_Lit #[.slice none 0 0, .int .i64 n] .sl K h :=
  S_slices_Grow_clauses_Clause_lits_Lit (a0 := ⟨none, 0, 0⟩) (a1 := n) K hW

theorem concat2_c {b : Nat} {t0 : TypeId} (kb : Blk h b t0 [.slice s.a s.len s.cap, .slice s2.a s2.len s2.cap]) (hA : At h (li c s)) (hB : At h (li d s2)) (hl : c.length + d.length ≤ 1048576) :
    callT Try.prog fn_slices_Concat_clauses_Clause_lits_Lit #[.slice (some ⟨b, 0, none⟩) 2 2] .sl (fun s' h' => New h.size h' (lo (c ++ d) s') ∧ Ext [] h h') h := by
  refine callT_gen fun K hK => S_slices_Concat_clauses_Clause_lits_Lit (a0 := ⟨some ⟨b, 0, none⟩, 2, 2⟩) K ?_
  have hp : At h (rsl Ty.sl.enc [s, s2] ⟨some ⟨b, 0, none⟩, 2, 2⟩) := ⟨[b], osl_rsl (t := t0) (.inl ⟨b, [], rfl, rfl, kb⟩)⟩
  refine w_concat (P := Try.prog) (τ := i64) (t := ty_lits_Lit) (by_ := 8) (z := .int .i64 0) (fg := fn_slices_Grow_clauses_Clause_lits_Lit) (xss := [c, d]) hp rfl ?_ (by simp) (by simp; omega) (by decide) leaf_int (fun n K h hW => grow_c hW) (fun s' h' a b => hK _ _ ⟨by simpa using a, b⟩)
  intro i hi
  match i, hi with
  | 0, _ => exact hA
  | 1, _ => exact hB

theorem union_c (hA : At h (li c s)) (hB : At h (li d s2)) : callT Try.prog fn_clauses_Union #[.slice s.a s.len s.cap, .slice s2.a s2.len s2.cap] (.tup (.cons .sl (.cons (.int .i64) .nil)))
    (fun r h' => ∃ s', r = (s', (unionP c d).2, ()) ∧ New h.size h' (lo (unionP c d).1 s') ∧ Ext [] h h') h := by
  refine callT_gen fun K hK => S_clauses_Union (a0 := s) (a1 := s2) K ?_
  unfold F_clauses_Union
  have st := Hs.start h [] (by simp)
  refine call_of (right_c hA) ?_
  rintro r h2 ⟨rfl, x2⟩
  have st := st.ext x2
  cases hr : rightC c with
  | false =>
    simp only [Bool.not_false, brB_true]
    exact hK _ _ ⟨⟨none, 0, 0⟩, by simp [unionP, hr], by rw [show unionP c d = ([], 20) by simp [unionP, hr]]; exact osl_nil _ _, st.frame (by simp)⟩
  | true =>
    simp only [Bool.not_true, brB_false]
    refine call_of (right_c (hB.ext (st.frame (by simp)))) ?_
    rintro r h3 ⟨rfl, x3⟩
    have st := st.ext x3
    cases hr2 : rightC d with
    | false =>
      simp only [Bool.not_false, brB_true]
      exact hK _ _ ⟨⟨none, 0, 0⟩, by simp [unionP, hr2], by rw [show unionP c d = ([], 20) by simp [unionP, hr2]]; exact osl_nil _ _, st.frame (by simp)⟩
    | true =>
      simp only [Bool.not_true, brB_false]
      have l1 := rightC_len hr
      have l2 := rightC_len hr2
      refine st.nw fun b2 h4 st => ?_
      refine call_of (concat2_c (st.blk 0 rfl) (hA.ext (st.frame (by simp))) (hB.ext (st.frame (by simp))) (by omega)) ?_
      rintro s5 h5 ⟨n5, x5⟩
      have st := st.new x5 n5
      refine call_of (normal_u (st.own 1 rfl).rsl (by simp; omega) (fun x hx => by
        rcases List.mem_append.1 hx with hx | hx
        · exact rightC_rt hr x hx
        · exact rightC_rt hr2 x hx)) ?_
      rintro s6 h6 ⟨n6, x6⟩
      have st := st.new x6 n6
      have l3 := osl_len n6.at
      have hn := nrm_length (c ++ d)
      by_cases hm : (nrm (c ++ d)).length > 4096
      · have e : decide ((s6.len : Int) > 4096) = true := decide_eq_true (by omega)
        rw [e, brB_true]
        exact hK _ _ ⟨⟨none, 0, 0⟩, by simp [unionP, hr, hr2, hm], by rw [show unionP c d = ([], 5) by simp [unionP, hr, hr2, hm]]; exact osl_nil _ _, st.frame (by simp)⟩
      · have e : decide ((s6.len : Int) > 4096) = false := decide_eq_false (by omega)
        rw [e, brB_false]
        have e2 : unionP c d = (nrm (c ++ d), 0) := by simp [unionP, hr, hr2, hm]
        exact hK _ _ ⟨s6, by rw [e2], by rw [e2]; exact st.res (by simp) 2 rfl, st.frame (by simp)⟩

theorem resolve_c (hA : At h (li c s)) (hB : At h (li d s2)) (l : Int) : callT Try.prog fn_clauses_Resolve #[.slice s.a s.len s.cap, .slice s2.a s2.len s2.cap, .int .i64 l] (.tup (.cons .sl (.cons (.int .i64) .nil)))
    (fun r h' => ∃ s', r = (s', (resolveP c d l).2, ()) ∧ New h.size h' (lo (resolveP c d l).1 s') ∧ Ext [] h h') h := by
  refine callT_gen fun K hK => S_clauses_Resolve (a0 := s) (a1 := s2) (a2 := l) K ?_
  unfold F_clauses_Resolve
  have st := Hs.start h [] (by simp)
  have done : ∀ (e : Int) (h' : Heap), Ext [] h h' → resolveP c d l = ([], e) → K (⟨none, 0, 0⟩, e, ()) h' := fun e h' x er => hK _ _ ⟨⟨none, 0, 0⟩, by rw [er], by rw [er]; exact osl_nil _ _, x⟩
  refine call_of (right_c hA) ?_
  rintro r h2 ⟨rfl, x2⟩
  have st := st.ext x2
  cases hr : rightC c with
  | false => simp only [Bool.not_false, brB_true]; exact done 20 _ (st.frame (by simp)) (by simp [resolveP, hr])
  | true =>
    simp only [Bool.not_true, brB_false]
    refine call_of (right_c (hB.ext (st.frame (by simp)))) ?_
    rintro r h3 ⟨rfl, x3⟩
    have st := st.ext x3
    cases hr2 : rightC d with
    | false => simp only [Bool.not_false, brB_true]; exact done 20 _ (st.frame (by simp)) (by simp [resolveP, hr2])
    | true =>
      simp only [Bool.not_true, brB_false]
      refine call_of (clauses_wrong_c l) ?_
      rintro r h3 ⟨rfl, rfl⟩
      cases hl : rt l with
      | false => simp only [Bool.not_false, brB_true]; exact done 10 _ (st.frame (by simp)) (by simp [resolveP, hr, hr2, hl])
      | true =>
        simp only [Bool.not_true, brB_false]
        refine call_of (has_c (hA.ext (st.frame (by simp))) l) ?_
        rintro r h4 ⟨rfl, x4⟩
        have st := st.ext x4
        unfold hasC
        rw [hr, Bool.true_and]
        cases hh : c.contains l with
        | false => simp only [Bool.not_false, brB_true]; exact done 21 _ (st.frame (by simp)) (by unfold resolveP; rw [hr, hr2, hl, hh]; rfl)
        | true =>
          simp only [Bool.not_true, brB_false]
          refine call_of (lits_Neg_c l) ?_
          rintro r h5 ⟨rfl, rfl⟩
          rw [negL_rt hl]
          refine call_of (has_c (hB.ext (st.frame (by simp))) (-l)) ?_
          rintro r h6 ⟨rfl, x6⟩
          have st := st.ext x6
          unfold hasC
          rw [hr2, Bool.true_and]
          cases hh2 : d.contains (-l) with
          | false => simp only [Bool.not_false, brB_true]; exact done 21 _ (st.frame (by simp)) (by unfold resolveP; rw [hr, hr2, hl, hh, hh2]; rfl)
          | true =>
            simp only [Bool.not_true, brB_false]
            refine call_of (without_c (hA.ext (st.frame (by simp))) l) ?_
            rintro _ h7 ⟨s7, rfl, n7, x7⟩
            have st := st.new x7 n7
            refine call_of (lits_Neg_c l) ?_
            rintro r h8 ⟨rfl, rfl⟩
            rw [negL_rt hl]
            refine call_of (without_c (hB.ext (st.frame (by simp))) (-l)) ?_
            rintro _ h9 ⟨s9, rfl, n9, x9⟩
            have st := st.new x9 n9
            refine call_of (union_c (st.own 0 rfl).rsl (st.own 1 rfl).rsl) ?_
            rintro _ h10 ⟨s10, rfl, n10, x10⟩
            have st := st.new x10 n10
            have e : resolveP c d l = unionP (withoutP c l).1 (withoutP d (-l)).1 := by unfold resolveP; rw [hr, hr2, hl, hh, hh2]; rfl
            exact hK _ _ ⟨s10, by rw [e], by rw [e]; exact st.res (by simp) 2 rfl, st.frame (by simp)⟩

end Go.Proofs.S

set_option linter.unusedVariables false
namespace Go.Proofs.S
open Go Go.Sx Go.Proofs Go.Cl

variable {h : Heap} {c d : List Int} {s s2 : Sl} {fr : Fr} {G As : List Asn}
abbrev io (c : List Int) (s : Sl) : Asn := osl ty_int i64.enc c s

theorem nrm_filter (hr : rightC c = true) (p : Int → Bool) : nrm (c.filter p) = (nrm c).filter p := by
  refine (nrm_eq (fun x hx => rightC_rt hr x (List.mem_filter.1 hx).1) ((strict_nrm hr).filter _) fun x => ?_).symm
  rw [List.mem_filter, List.mem_filter, mem_nrm hr]

theorem sel {N : List Int} (hs : Strict N) (hrt : ∀ x ∈ N, rt x = true) (hm : ∀ x, x ∈ N ↔ x ∈ c) {k : Nat} (hk : k ≤ N.length) {last b : Int} (hl : ∀ j (hj : j < N.length), ix N[j] > last ↔ k ≤ j)
    (hb : (b = -1 ∧ ∀ x ∈ c, ¬ ix x > last) ∨ (∃ x ∈ c, ix x = b ∧ ix x > last ∧ ∀ y ∈ c, ix y > last → b ≤ ix y)) : (k = N.length ∧ b = -1) ∨ (∃ hk : k < N.length, b = ix N[k]) := by
  rcases hb with ⟨rfl, hn⟩ | ⟨x, hx, e, hgt, hmin⟩
  · refine .inl ⟨?_, rfl⟩
    rcases Nat.lt_or_eq_of_le hk with h | h
    · exact absurd ((hl k h).2 (Nat.le_refl _)) (hn _ ((hm _).1 (List.getElem_mem h)))
    · exact h
  · obtain ⟨j, hj, rfl⟩ := List.mem_iff_getElem.1 ((hm x).2 hx)
    have hkj := (hl j hj).1 hgt
    have hkl : k < N.length := by omega
    refine .inr ⟨hkl, ?_⟩
    have h1 := hmin _ ((hm _).1 (List.getElem_mem hkl)) ((hl k hkl).2 (Nat.le_refl _))
    rcases Nat.lt_or_eq_of_le hkj with h | h
    · have := List.pairwise_iff_getElem.1 hs k j hkl hj h
      rw [ltL_rt (hrt _ (List.getElem_mem _)) (hrt _ (List.getElem_mem _))] at this
      omega
    · subst h; exact e.symm

theorem mem_take_succ {d : List Int} {i : Nat} (hi : i < d.length) {y : Int} : y ∈ d.take (i + 1) ↔ y ∈ d.take i ∨ y = d[i] := by rw [take_succ_getE hi, List.mem_append, List.mem_singleton]
theorem ix_nonneg {x : Int} (h : rt x = true) : 0 ≤ ix x := by have := rt_iff.1 h; unfold ix; split <;> omega

theorem r1_right_c (x : Int) : callT Try.prog fn_salvorref01_Right #[.int .i64 x] .bool (fun r h' => r = rt x ∧ h' = h) h := by
  refine callT_gen fun K hK => S_salvorref01_Right (a0 := x) K ?_
  unfold F_salvorref01_Right
  have key : ∀ b : Bool, b = rt x → K b h := fun b e => hK _ _ ⟨e, rfl⟩
  by_cases h1 : x ≥ 1
  · rw [decide_eq_true h1, brB_true]
    by_cases h2 : x ≤ 1048576
    · rw [decide_eq_true h2, brB_true]; exact key _ (rt_iff.2 (by omega)).symm
    · rw [decide_eq_false h2, brB_false]
      rw [decide_eq_true (show x ≥ -1048576 by omega), brB_true]
      refine key _ ?_
      rw [decide_eq_false (by omega)]
      cases h : rt x with
      | false => rfl
      | true => have := rt_iff.1 h; omega
  · rw [decide_eq_false h1, brB_false]
    by_cases h2 : x ≥ -1048576
    · rw [decide_eq_true h2, brB_true]
      refine key _ ?_
      by_cases h3 : x ≤ -1
      · rw [decide_eq_true h3]; exact (rt_iff.2 (by omega)).symm
      · rw [decide_eq_false h3]
        cases h : rt x with
        | false => rfl
        | true => have := rt_iff.1 h; omega
    · rw [decide_eq_false h2, brB_false]
      refine key _ ?_
      cases h : rt x with
      | false => rfl
      | true => have := rt_iff.1 h; omega

theorem r2_right_c (hA : At h (li c s)) (hl : c.length ≤ 1099511627776) : callT Try.prog fn_salvorref02_Right #[.slice s.a s.len s.cap] .bool (fun r h' => r = rightC c ∧ h' = h) h := by
  refine callT_gen fun K hK => S_salvorref02_Right (a0 := s) K ?_
  unfold F_salvorref02_Right
  have l1 := rsl_len hA
  by_cases h1 : c.length > 4096
  · rw [decide_eq_true (show (s.len : Int) > 4096 by omega), brB_true]
    refine hK _ _ ⟨?_, rfl⟩
    unfold rightC; rw [decide_eq_false (by omega)]; rfl
  · rw [decide_eq_false (show ¬ (s.len : Int) > 4096 by omega), brB_false]
    refine lfp_invh (I := fun m σ h' => ∃ i : Nat, σ = ((i : Int), false, ()) ∧ i ≤ c.length ∧ (∀ j (hj : j < c.length), j < i → rt c[j] = true) ∧ h' = h ∧ m = c.length - i) ⟨_, 0, rfl, by omega, by omega, rfl, rfl⟩ ?_
    rintro m σ h' X ⟨i, rfl, hi, hp, rfl, em⟩ hX
    simp only
    by_cases hlt : i < c.length
    · rw [show decide ((i : Int) < (s.len : Int)) = true by rw [l1]; exact dlt_t hlt, brB_true, inc_i (show i < 4611686018427387904 by omega)]
      refine rdE (τ := i64) hA hlt ?_
      refine call_of (r1_right_c _) ?_
      rintro r h2 ⟨rfl, rfl⟩
      cases he : rt c[i] with
      | true =>
        simp only [Bool.not_true, brB_false]
        refine hX _ _ _ ⟨i + 1, rfl, by omega, fun j hj hji => ?_, rfl, rfl⟩ (by omega)
        by_cases ej : j = i
        · subst ej; exact he
        · exact hp j hj (by omega)
      | false =>
        simp only [Bool.not_false, brB_true]
        refine hK _ _ ⟨?_, rfl⟩
        have : c.all rt = false := List.all_eq_false.2 ⟨_, List.getElem_mem hlt, by simp [he]⟩
        unfold rightC; rw [this, Bool.and_false]
    · rw [show decide ((i : Int) < (s.len : Int)) = false by rw [l1]; exact dlt_f hlt, brB_false]
      refine hK _ _ ⟨?_, rfl⟩
      have : c.all rt = true := by
        rw [List.all_eq_true]
        intro x hx
        obtain ⟨j, hj, rfl⟩ := List.mem_iff_getElem.1 hx
        exact hp j hj (by omega)
      unfold rightC; rw [this, decide_eq_true (by omega)]; rfl

theorem r2_has_c (hA : At h (li c s)) (hl : c.length ≤ 1099511627776) (l : Int) : callT Try.prog fn_salvorref02_Has #[.slice s.a s.len s.cap, .int .i64 l] .bool (fun r h' => r = c.contains l ∧ h' = h) h := by
  refine callT_gen fun K hK => S_salvorref02_Has (a0 := s) (a1 := l) K ?_
  unfold F_salvorref02_Has
  have l1 := rsl_len hA
  refine lfp_invh (I := fun m σ h' => ∃ i : Nat, σ = ((i : Int), false, ()) ∧ i ≤ c.length ∧ l ∉ c.take i ∧ h' = h ∧ m = c.length - i) ⟨_, 0, rfl, by omega, by simp, rfl, rfl⟩ ?_
  rintro m σ h' X ⟨i, rfl, hi, hp, rfl, em⟩ hX
  simp only
  by_cases hlt : i < c.length
  · rw [show decide ((i : Int) < (s.len : Int)) = true by rw [l1]; exact dlt_t hlt, brB_true, inc_i (show i < 4611686018427387904 by omega)]
    refine rdE (τ := i64) hA hlt ?_
    by_cases he : c[i] = l
    · rw [show (c[i] == l) = true by simp [he], brB_true]
      refine hK _ _ ⟨?_, rfl⟩
      symm; rw [List.contains_iff_mem]; exact he ▸ List.getElem_mem hlt
    · rw [show (c[i] == l) = false by simp [he], brB_false]
      exact hX _ _ _ ⟨i + 1, rfl, by omega, not_mem_take_succ hlt hp (fun e => he e.symm), rfl, rfl⟩ (by omega)
  · rw [show decide ((i : Int) < (s.len : Int)) = false by rw [l1]; exact dlt_f hlt, brB_false]
    rw [List.take_of_length_le (by omega)] at hp
    refine hK _ _ ⟨?_, rfl⟩
    symm; simpa using hp

theorem r2_always_c (hA : At h (li c s)) (hr : rightC c = true) : callT Try.prog fn_salvorref02_Always #[.slice s.a s.len s.cap] .bool (fun r h' => r = alwaysC c ∧ h' = h) h := by
  refine callT_gen fun K hK => S_salvorref02_Always (a0 := s) K ?_
  unfold F_salvorref02_Always
  have l1 := rsl_len hA
  have hl := rightC_len hr
  refine lfp_invh (I := fun m σ h' => ∃ i : Nat, σ = ((i : Int), false, ()) ∧ i ≤ c.length ∧ (∀ x ∈ c.take i, c.contains (-x) = false) ∧ h' = h ∧ m = c.length - i) ⟨_, 0, rfl, by omega, by simp, rfl, rfl⟩ ?_
  rintro m σ h' X ⟨i, rfl, hi, hp, rfl, em⟩ hX
  simp only
  by_cases hlt : i < c.length
  · rw [show decide ((i : Int) < (s.len : Int)) = true by rw [l1]; exact dlt_t hlt, brB_true, inc_i (show i < 4611686018427387904 by omega)]
    refine rdE (τ := i64) hA hlt ?_
    rw [wneg (rightC_rt hr _ (List.getElem_mem hlt))]
    refine call_of (r2_has_c hA (by omega) _) ?_
    rintro r h2 ⟨rfl, rfl⟩
    cases he : c.contains (-c[i]) with
    | true =>
      simp only [brB_true]
      exact hK _ _ ⟨(List.any_eq_true.2 ⟨_, List.getElem_mem hlt, he⟩).symm, rfl⟩
    | false =>
      simp only [brB_false]
      refine hX _ _ _ ⟨i + 1, rfl, by omega, fun x hx => ?_, rfl, rfl⟩ (by omega)
      rw [take_succ_getE hlt] at hx
      rcases mem_snoc1 hx with hx | hx
      · exact hp x hx
      · subst hx; exact he
  · rw [show decide ((i : Int) < (s.len : Int)) = false by rw [l1]; exact dlt_f hlt, brB_false]
    rw [List.take_of_length_le (by omega)] at hp
    refine hK _ _ ⟨?_, rfl⟩
    symm; unfold alwaysC; rw [List.any_eq_false]; intro x hx; rw [hp x hx]; simp

end Go.Proofs.S
