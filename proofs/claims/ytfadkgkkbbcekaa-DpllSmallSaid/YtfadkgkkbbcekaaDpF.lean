/-
  The package dpll: how a search begins, what is wrong, what follows: contracts.
-/
import Derived.Test.YtfadkgkkbbcekaaDpC
import Derived.Test.YtfadkgkkbbcekaaFoI
import Derived.Test.YtfadkgkkbbcekaaFoA
set_option linter.unusedVariables false
set_option linter.unusedSimpArgs false
namespace Go.Proofs.S
open Go Go.Sx Go.Proofs Go.Cl Go.Dp

variable {h : Heap} {c d L : List Int} {s s2 sv : Sl} {fr : Fr} {G As : List Asn} {b sb v : Nat} {g fu : Int} {cs : List (List Int)}

theorem bey_iffL {n x : Int} : beyP n x = false ↔ rt x = true ∧ varL x ≤ n := by
  unfold beyP
  cases rt x <;> simp
theorem snoc_asg {x : Int} (hA : Asg v L) (hr : rt x = true) (hx : varL x ≤ v) (hn : -x ∉ L) : Asg v (L ++ [x]) := by
  have h0 := rt_iff.1 hr
  refine ⟨fun y hy => ?_, fun y hy h2 => ?_⟩
  · simp at hy
    rcases hy with hy | rfl
    · exact hA.inV y hy
    · exact ⟨hr, hx⟩
  · simp at hy h2
    rcases hy with hy | rfl
    · rcases h2 with h2 | h2
      · exact hA.cons y hy h2
      · exact hn (by rw [← h2, Int.neg_neg]; exact hy)
    · rcases h2 with h2 | h2
      · exact hn h2
      · omega

structure Sofar (v : Nat) (out set : List Bool) (P : List Int) : Prop where
  lo : out.length = v
  ls : set.length = v
  ho : ∀ k : Nat, k < v → out.getD k false = decide ((k : Int) + 1 ∈ P)
  hs : ∀ k : Nat, k < v → set.getD k false = decide ((k : Int) + 1 ∈ P ∨ -((k : Int) + 1) ∈ P)

theorem modelGo_asg : ∀ (l : List Int) (out set : List Bool) (P : List Int), Sofar v out set P → Asg v P → ((modelGo v out set l).2 = 0 ↔ Asg v (P ++ l))
  | [], out, set, P, _, hA => by rw [modelGo_nil]; simp [hA]
  | x :: l, out, set, P, hs, hA => by
    rw [modelGo_cons]
    cases hb : beyP v x with
    | true =>
      rw [if_pos rfl]
      refine ⟨fun h => (by cases h), fun h => ?_⟩
      have := bey_iffL.2 (h.inV x (by simp))
      rw [this] at hb; cases hb
    | false =>
      rw [if_neg (by simp)]
      obtain ⟨hr, hx⟩ := bey_iffL.1 hb
      have hp := Fo.varL_pos hr
      have h0 := rt_iff.1 hr
      have hk : (varL x - 1).toNat < v := by omega
      have e1 : (((varL x - 1).toNat : Nat) : Int) + 1 = varL x := by omega
      rw [hs.hs _ hk, hs.ho _ hk, e1]
      have key : (decide (varL x ∈ P ∨ -varL x ∈ P) && (decide (varL x ∈ P) == decide (x < 0))) = decide (-x ∈ P) := by
        have ex := varL_abs hr
        by_cases hneg : x < 0
        · rw [if_pos hneg] at ex
          rw [ex, decide_eq_true hneg, Int.neg_neg]
          by_cases h1 : -x ∈ P <;> simp [h1]
        · rw [if_neg hneg] at ex
          rw [ex, decide_eq_false hneg]
          by_cases h1 : x ∈ P
          · have := hA.cons x h1
            simp [h1, this]
          · simp [h1]
      rw [key]
      by_cases hn : -x ∈ P
      · rw [if_pos (decide_eq_true hn)]
        refine ⟨fun h => (by cases h), fun h => absurd (h.cons x (by simp)) ?_⟩
        simp [hn]
      · rw [if_neg (by simpa using hn)]
        have hA2 := snoc_asg hA hr hx hn
        have := modelGo_asg l (out.set (varL x - 1).toNat (!decide (x < 0))) (set.set (varL x - 1).toNat true) (P ++ [x]) ⟨by rw [List.length_set, hs.lo], by rw [List.length_set, hs.ls], fun k hk2 => ?_, fun k hk2 => ?_⟩ hA2
        · rw [this]; simp
        · rw [List.getD_eq_getElem?_getD, List.getElem?_set]
          by_cases e : (varL x - 1).toNat = k
          · subst e
            rw [if_pos rfl, if_pos (by rw [hs.lo]; exact hk), e1]
            have ex := varL_abs hr
            by_cases hneg : x < 0
            · rw [if_pos hneg] at ex
              rw [ex, decide_eq_true hneg]
              have : ¬ (-x ∈ P ++ [x]) := by simp [hn]; omega
              rw [decide_eq_false this]; rfl
            · rw [if_neg hneg] at ex
              rw [ex, decide_eq_false hneg, decide_eq_true (by simp)]; rfl
          · rw [if_neg e, ← List.getD_eq_getElem?_getD, hs.ho k hk2]
            have ex := varL_abs hr
            have : ((k : Int) + 1 ∈ P ++ [x]) ↔ (k : Int) + 1 ∈ P := by
              simp only [List.mem_append, List.mem_singleton]
              exact ⟨fun q => q.elim id fun q => absurd (by rw [ex, if_neg (by omega)]; omega) e, .inl⟩
            rw [decide_eq_decide.2 this]
        · rw [List.getD_eq_getElem?_getD, List.getElem?_set]
          by_cases e : (varL x - 1).toNat = k
          · subst e
            rw [if_pos rfl, if_pos (by rw [hs.ls]; exact hk), e1]
            have ex := varL_abs hr
            symm
            refine decide_eq_true ?_
            by_cases hneg : x < 0
            · rw [if_pos hneg] at ex; rw [ex, Int.neg_neg]; exact .inr (by simp)
            · rw [if_neg hneg] at ex; rw [ex]; exact .inl (by simp)
          · rw [if_neg e, ← List.getD_eq_getElem?_getD, hs.hs k hk2]
            have ex := varL_abs hr
            have q1 : ((k : Int) + 1 ∈ P ++ [x]) ↔ (k : Int) + 1 ∈ P := by
              simp only [List.mem_append, List.mem_singleton]
              exact ⟨fun q => q.elim id fun q => absurd (by rw [ex, if_neg (by omega)]; omega) e, .inl⟩
            have q2 : (-((k : Int) + 1) ∈ P ++ [x]) ↔ -((k : Int) + 1) ∈ P := by
              simp only [List.mem_append, List.mem_singleton]
              exact ⟨fun q => q.elim id fun q => absurd (by rw [ex, if_pos (by omega)]; omega) e, .inl⟩
            exact decide_eq_decide.2 (by rw [q1, q2])

theorem modelF_asg {n : Int} : (modelF n c).2 = 0 ↔ 0 ≤ n ∧ n ≤ 1048576 ∧ Asg n.toNat c := by
  unfold modelF
  cases hv : varsP n with
  | false =>
    rw [if_neg (by simp)]
    unfold varsP at hv
    refine ⟨fun h => (by cases h), fun h => ?_⟩
    rw [decide_eq_true h.1, decide_eq_true h.2.1] at hv; cases hv
  | true =>
    rw [if_pos rfl]
    unfold varsP at hv
    simp only [Bool.and_eq_true, decide_eq_true_eq] at hv
    obtain ⟨k, rfl⟩ := Int.eq_ofNat_of_zero_le hv.1
    rw [Int.toNat_natCast]
    have := modelGo_asg (v := k) c (List.replicate k false) (List.replicate k false) [] ⟨by simp, by simp, fun j hj => by simp [hj], fun j hj => by simp [hj]⟩ Asg.nil
    rw [this, List.nil_append]
    exact ⟨fun h => ⟨hv.1, hv.2, h⟩, fun h => h.2.2⟩

theorem row_nil : row v [] = List.replicate (v + 1) (0 : Int) := by
  refine List.ext_getElem? fun k => ?_
  by_cases hk : k ≤ v
  · rw [row_at hk, List.getElem?_replicate, if_pos (by omega)]; rfl
  · rw [List.getElem?_eq_none (by rw [row_len]; omega), List.getElem?_eq_none (by simp; omega)]

theorem Hs.begin {n : Int} {sl : Sl} (st : Hs fr G As h) (hcs : lli cs s ∈ G) (hli : li c sl ∈ G) (hl : cs.length ≤ 1048576) (hc : ∀ c ∈ cs, c.length ≤ 1048576) (hcl : c.length ≤ 1048576) {K : (Option Addr × Int × Unit) → HP}
    (no : (modelF n c).2 ≠ 0 → ∀ h', Hs fr G As h' → K (none, (modelF n c).2, ()) h')
    (ok : ∀ v : Nat, n = v → v ≤ 1048576 → Asg v c → ∀ sb s' sv h', Hs fr G (As ++ [llo cs s', vrow v c sv, srch sb v s' sv 0 fu]) h' → K (some ⟨sb, 0, none⟩, 0, ()) h') :
    callT Try.prog fn_dpll_begin #[.agg #[.int .i64 n, .slice s.a s.len s.cap], .slice sl.a sl.len sl.cap, .int .i64 fu] (.tup (.cons .ptr (.cons (.int .i64) .nil))) K h := by
  refine S_dpll_begin (a0 := (n, s, ())) (a1 := sl) (a2 := fu) K ?_
  unfold F_dpll_begin
  obtain ⟨st, back⟩ := st.beside
  have bk : ∀ h', Hs [([], h)] G [] h' → Hs fr G As h' := fun h' q => by simpa using back _ _ q
  refine st.nw fun b0 h1 st => ?_
  simp only [List.nil_append] at st
  rw [st.ldi 0 0 rfl rfl]
  refine call_of (fmodel_c (st.fzm hli) (by omega)) ?_
  rintro _ h2 ⟨s', rfl, _, x2⟩
  have st := st.ext x2
  simp only
  by_cases he : (modelF n c).2 = 0
  rotate_left
  · exact brT (bne_iff_ne.2 he) (no he _ (bk _ (st.drop 0 rfl)))
  refine brF (by rw [he]; rfl) ?_
  obtain ⟨n0, n1, hA⟩ := modelF_asg.1 he
  obtain ⟨v, rfl⟩ := Int.eq_ofNat_of_zero_le n0
  rw [Int.toNat_natCast] at hA
  refine ldF (st.blk 0 rfl) ?_
  rw [st.ldi 0 0 rfl rfl]
  have e1 : IntKind.wrap .i64 ((v : Int) + 1) = ((v + 1 : Nat) : Int) := by rw [wrap_i64 (by omega) (by omega)]; omega
  have tail : ∀ (s' sv : Sl) (h' : Heap), Hs [([], h)] G [llo cs s', vrow v [] sv, cl b0 ty_formula_Formula [.int .i64 v, .slice s.a s.len s.cap]] h' →
      nw #[(.int .i64 (v : Int)), (.slice s'.a s'.len s'.cap), (.slice sv.a sv.len sv.cap), (.int .i64 (0 : Int)), (.int .i64 fu)] ty_dpll_search (fun b7 =>
        lfp (σ := (Int × Unit)) (fun X8 s9 =>
          brB (decide (s9.1 < (sl.len : Int)))
          (sx sl.a sl.len s9.1 1 fun p10 => ldT (.int .i64) p10 fun x11 =>
            callT Try.prog fn_dpll_search_set #[(.pointer (some (⟨b7, 0, none⟩ : Addr))), (.int .i64 x11)] (.tup .nil) fun r12 => X8 ((IntKind.wrap .i64 (s9.1 + (1 : Int))), ()))
          (K ((some (⟨b7, 0, none⟩ : Addr)), (0 : Int), ()))) ((0 : Int), ())) h' := by
    intro s' sv h' st
    refine st.nw fun b7 h4 st => ?_
    have ll2 := rsl_len (st.fzm hli)
    refine lfp_invh (I := fun m σ h' => ∃ i : Nat, σ = ((i : Int), ()) ∧ i ≤ c.length ∧ Hs [([], h)] G [llo cs s', vrow v (c.take i) sv, cl b0 ty_formula_Formula [.int .i64 v, .slice s.a s.len s.cap], srch b7 v s' sv 0 fu] h' ∧ m = c.length - i)
      ⟨_, 0, rfl, by omega, by simpa using st, rfl⟩ ?_
    clear st
    rintro m σ h5 X ⟨i, rfl, hi, st, rfl⟩ hX
    simp only
    by_cases hlt : i < c.length
    · rw [decide_eq_true (show (i : Int) < (sl.len : Int) by omega), brB_true, inc_i (show i < 4611686018427387904 by omega)]
      refine rd_ok (τ := i64) (st.fzm hli) (List.getElem?_eq_getElem hlt) ?_
      have ht : c.take (i + 1) = c.take i ++ [c[i]] := by simp
      have hA2 : Asg v (c.take i ++ [c[i]]) := by
        rw [← ht]
        exact Asg.left (o := c.drop (i + 1)) (by rw [List.take_append_drop]; exact hA)
      refine Hs.setV (k := 1) st 3 rfl rfl (by decide) hA2 fun h6 st => ?_
      simp only [List.set_cons_succ, List.set_cons_zero] at st
      rw [← ht] at st
      exact hX _ _ _ ⟨i + 1, rfl, by omega, st, rfl⟩ (by omega)
    · rw [decide_eq_false (show ¬ (i : Int) < (sl.len : Int) by omega), brB_false]
      rw [List.take_of_length_le (by omega)] at st
      have st := st.drop 2 rfl
      simp only [List.eraseIdx_cons_succ, List.eraseIdx_cons_zero] at st
      exact ok v rfl (by omega) hA b7 s' sv _ (back _ _ st)
  refine ⟨?_, ?_⟩
  · refine call_of (copy_c (st.fzm hcs) hl hc) ?_
    rintro _ h3 ⟨s', rfl, hn, x3⟩
    have st := st.new x3 hn
    simp only [List.cons_append, List.nil_append] at st
    rw [st.ck 0 0 rfl rfl, e1]
    refine Hs.mks1 (n := v + 1) (τ := i64) (z := (0 : Int)) st (by omega) (by decide) fun sv h4 st => ?_
    simp only [List.cons_append, List.nil_append] at st
    rw [← row_nil] at st
    exact tail s' sv _ ((st.hd 2 rfl).hd 2 rfl)
  · rw [e1]
    refine Hs.mks1 (n := v + 1) (τ := i64) (z := (0 : Int)) st (by omega) (by decide) fun sv h3 st => ?_
    simp only [List.cons_append, List.nil_append] at st
    rw [← row_nil] at st
    refine call_of (copy_c (st.fzm hcs) hl hc) ?_
    rintro _ h4 ⟨s', rfl, hn, x4⟩
    have st := st.new x4 hn
    simp only [List.cons_append, List.nil_append] at st
    rw [st.ck 0 0 rfl rfl]
    exact tail s' sv _ ((st.hd 1 rfl).hd 2 rfl)

end Go.Proofs.S

set_option linter.unusedVariables false
set_option linter.unusedSimpArgs false
namespace Go.Sx
open Go
theorem Hs.ofIt {α : Type} {h h2 : Heap} {F : List Nat} {A : List α → List Nat → HP} {G' G Bs : List Asn} {pre : List α} {B SX : List Nat} {X : Asn} (it : It h F A G' Bs pre B h2) (x : Ext [] h h2) (hX : X.P SX h2) (hS : ∀ b ∈ SX, b ∈ B ∧ h.size ≤ b) (hG : ∀ C ∈ G, At h C) : Hs [([], h)] G (X :: Bs) h2 := by
  obtain ⟨hA, hz, hBF, hF, hBl, S, hs, hSS, _⟩ := it
  have hlow : ∀ b ∈ SX ++ S, h.size ≤ b := fun b hb => (List.mem_append.1 hb).elim (fun k => (hS b k).2) fun k => (hSS b k).1
  refine ⟨SX ++ S, ⟨SX, S, rfl, fun b hb hin => (hSS b hin).2 (hS b hb).1, hX, hs⟩, fun C hC => ?_, fun p hp => ?_⟩
  · obtain ⟨SC, p⟩ := hG C hC
    refine ⟨SC, Asn.ext p x (by simp), fun b hb hin => ?_⟩
    have := At.lt p b hb
    have := hlow b hin
    omega
  · simp at hp; subst hp
    exact ⟨x, fun b hb => .inr (hlow b hb)⟩
end Go.Sx
namespace Go.Proofs.S
open Go Go.Sx Go.Proofs Go.Cl Go.Dp

variable {h : Heap} {c d L : List Int} {s s2 sv : Sl} {fr : Fr} {G As : List Asn} {b sb v : Nat} {g : Int} {cs : List (List Int)}

def wrongP (n : Int) (cs : List (List Int)) (fu : Int) : Int := if (checkP n cs).2 ≠ 0 then (checkP n cs).2 else if fu < 0 ∨ fu > 16777216 then 2 else 0
theorem wrong_c {n fu : Int} (hA : At h (lli cs s)) : callT Try.prog fn_dpll_wrong #[.agg #[.int .i64 n, .slice s.a s.len s.cap], .int .i64 fu] (.int .i64) (fun r h' => r = wrongP n cs fu ∧ Ext [] h h') h := by
  refine callT_gen fun K hK => S_dpll_wrong (a0 := (n, s, ())) (a1 := fu) K ?_
  unfold F_dpll_wrong
  have st := Hs.start h [lli cs s] (by simp [hA])
  refine st.nw fun b0 h1 st => ?_
  refine ldF (st.blk 0 rfl) ?_
  refine call_of (check_c (st.fz 0 rfl)) ?_
  rintro _ h2 ⟨rfl, x2⟩
  have st := st.ext x2
  simp only
  unfold wrongP at hK
  by_cases he : (checkP n cs).2 = 0
  · refine brF (by rw [he]; rfl) ?_
    rw [if_neg (by simp [he])] at hK
    refine jn_in fun J hJ => ?_
    by_cases h1 : fu < 0
    · rw [if_pos (.inl h1)] at hK
      exact brT (decide_eq_true h1) (hJ _ _ (brT rfl (hK _ _ ⟨rfl, st.frame (by simp)⟩)))
    · refine brF (decide_eq_false h1) (hJ _ _ ?_)
      by_cases h3 : fu > 16777216
      · rw [if_pos (.inr h3)] at hK
        exact brT (decide_eq_true h3) (hK _ _ ⟨rfl, st.frame (by simp)⟩)
      · rw [if_neg (fun q => q.elim h1 h3)] at hK
        exact brF (decide_eq_false h3) (hK _ _ ⟨rfl, st.frame (by simp)⟩)
  · rw [if_pos he] at hK
    exact brT (bne_iff_ne.2 he) (hK _ _ ⟨rfl, st.frame (by simp)⟩)

theorem ldAn {b : Nat} {t : TypeId} {x : Bool} {g : Int} {K : (Bool × (Sl × (Int × Unit))) → HP} (hb : Blk h b t [.bool x, .slice s.a s.len s.cap, .int .i64 g]) (hK : K (x, s, g, ()) h) : ldA (.cons .bool (.cons .sl (.cons (.int .i64) .nil))) ⟨b, 0, none⟩ K h :=
  ⟨(x, s, g, ()), CellsAt_blk' _ hb 0 (by
    intro j hj
    match j, hj with
    | 0, _ => rfl
    | 1, _ => rfl
    | 2, _ => rfl
    | j + 3, hj => exact absurd (show j + 3 < 3 from hj) (by omega)), hK⟩

def underP (n : Int) (cs : List (List Int)) (c : List Int) (fu : Int) : (Bool × List Bool × Int) × Int :=
  if wrongP n cs fu ≠ 0 then ((false, [], 0), wrongP n cs fu) else
  if (modelF n c).2 ≠ 0 then ((false, [], 0), (modelF n c).2) else
  let r := Dp.runT fu.toNat (trace n.toNat cs (n.toNat + 1) c)
  if (r.2 : Int) > fu then ((false, [], 0), 190) else ((r.1.isSome, r.1.getD [], r.2), 0)

abbrev tAn : Ty := .agg (.cons .bool (.cons .sl (.cons (.int .i64) .nil)))
def uA (h : Heap) (b8 : Nat) : List (Sl × Unit) → List Nat → HP := fun pre B h' => pre = [] ∧ B = [b8] ∧ Ext [] h h' ∧ h.size ≤ b8 ∧ Blk h' b8 ty_dpll_Answer [.bool false, .slice none 0 0, .int .i64 0]
def uD (h : Heap) (b8 : Nat) (MS : List (List Bool)) : List Nat → HP := fun B h' => ∃ s' N, B = N ++ [b8] ∧ b8 ∉ N ∧ Ext [] h h' ∧ (∀ b ∈ B, h.size ≤ b ∧ b < h'.size) ∧ (ob (MS.getD 0 []) s').P N h' ∧ Blk h' b8 ty_dpll_Answer [.bool true, .slice s'.a s'.len s'.cap, .int .i64 0]

theorem ext_new {h h1 h2 : Heap} {T : List Nat} (x : Ext [] h h1) (y : Ext T h1 h2) (hT : ∀ t ∈ T, h.size ≤ t) : Ext [] h h2 :=
  ⟨Nat.le_trans x.1 y.1, fun b hb _ => by
    rw [y.2 b (by have := x.1; omega) (fun hin => by have := hT b hin; omega)]
    exact x.2 b hb (by simp)⟩

theorem uA_stab {b8 : Nat} : Stab h (uA h b8) := by
  rintro pre B h1 h2 T ⟨rfl, rfl, x, hb, k⟩ y hT
  refine ⟨rfl, rfl, ext_new x y fun t ht => ((hT t ht).2.elim id fun q => by cases q), hb, ?_⟩
  have hlt : b8 < h1.size := k.lt
  unfold Blk
  rw [y.2 b8 hlt (fun hin => (hT b8 hin).1 (by simp))]
  exact k
theorem uD_stab {b8 : Nat} {MS : List (List Bool)} : Stab h (fun (_ : List (Sl × Unit)) => uD h b8 MS) := by
  rintro pre B h1 h2 T ⟨s', N, rfl, hn, x, hB, p, k⟩ y hT
  refine ⟨s', N, rfl, hn, ext_new x y fun t ht => ((hT t ht).2.elim id fun q => by cases q), fun b hb => ⟨(hB b hb).1, by have := (hB b hb).2; have := y.1; omega⟩, ?_, ?_⟩
  · exact (ob (MS.getD 0 []) s').loc p y.1 fun b hb => y.2 b (hB b (by simp [hb])).2 (fun hin => (hT b hin).1 (by simp [hb]))
  · unfold Blk
    rw [y.2 b8 (hB b8 (by simp)).2 (fun hin => (hT b8 hin).1 (by simp))]
    exact k

set_option maxRecDepth 100000 in
theorem under1_client {b8 : Nat} {MS : List (List Bool)} {F : List Nat} : Client Try.prog (.cons .sl .nil) h (mNx MS) F (uA h b8) (uD h b8 MS) (.func (.func fn_dpll_Under_1) #[] #[.pointer (some ⟨b8, 0, none⟩)]) := by
  refine ⟨uA_stab, ?_, ?_⟩
  · rintro pre x B h1 N ⟨hx, hN⟩ hNB ⟨rfl, rfl, xe, hb, k⟩
    have hn : b8 ∉ N := fun hin => (hNB b8 hin).2.2 (by simp)
    have st : Hs [(N ++ [b8], h1)] [] [ob (MS.getD 0 []) x.1, cl b8 ty_dpll_Answer [.bool false, .slice none 0 0, .int .i64 0]] h1 := by
      refine ⟨N ++ ([b8] ++ []), ⟨N, [b8] ++ [], rfl, fun b hb2 hin => ?_, hN, [b8], [], rfl, by simp, ⟨rfl, k⟩, rfl⟩, by simp [FzOk], fun p hp => ?_⟩
      · simp at hin; subst hin; exact hn hb2
      · simp at hp; subst hp; exact ⟨Ext.refl' _ _, fun b hb2 => .inl (by simpa using hb2)⟩
    refine callV_func (S_dpll_Under_1 (a0 := x.1) (c0 := ⟨b8, 0, none⟩) (fun r h2 => r = false ∧ Hs [(N ++ [b8], h1)] [] [ob (MS.getD 0 []) x.1, cl b8 ty_dpll_Answer [.bool true, .slice x.1.a x.1.len x.1.cap, .int .i64 0]] h2) ?_) |>.mono ?_
    · unfold F_dpll_Under_1
      refine st.st1 1 0 rfl (by simp) fun h2 st => ?_
      simp only [addr_add, Nat.zero_add]
      refine st.st1 1 1 rfl (by simp) fun h3 st => ?_
      exact ⟨trivial, st⟩
    · rintro _ h2 ⟨_, rfl, rfl, st⟩
      obtain ⟨S, ⟨S1, S2, e, hd, hP, S3, S4, e2, hd2, ⟨e3, kb⟩, e4⟩, _, hf⟩ := st
      obtain ⟨xx, hin⟩ := hf (N ++ [b8], h1) (by simp)
      simp only at xx hin
      subst e3; cases e4; subst e2; subst e
      have hbn : b8 ∉ S1 := fun q => hd b8 q (by simp)
      have hall : ∀ b ∈ S1 ++ [b8], b ∈ N ++ [b8] ∨ h1.size ≤ b := fun b hb2 => hin b (by simpa using hb2)
      refine ⟨S1 ++ [b8], ⟨fun b hb2 => ?_, fun b hb2 => ?_⟩, ⟨xx.1, fun b h3 h4 _ => xx.2 b h3 h4⟩, .inr ⟨rfl, x.1, S1, rfl, hbn, ?_, ?_, hP, kb⟩⟩
      · exact (hall b hb2)
      · refine .inr ?_
        rcases List.mem_append.1 hb2 with q | q
        · exact At.lt hP b q
        · simp at q; subst q; exact kb.lt
      · refine ext_new xe xx fun t ht => ?_
        rcases List.mem_append.1 ht with q | q
        · exact (hNB t q).1
        · simp at q; subst q; exact hb
      · intro b hb2
        refine ⟨?_, ?_⟩
        · rcases hall b hb2 with q | q
          · rcases List.mem_append.1 q with q | q
            · exact (hNB b q).1
            · simp at q; subst q; exact hb
          · have := xe.1; omega
        · rcases List.mem_append.1 hb2 with q | q
          · exact At.lt hP b q
          · simp at q; subst q; exact kb.lt
  · rintro pre B h1 ⟨rfl, rfl, _, _, k⟩ b hb
    simp at hb; subst hb; exact k.lt

end Go.Proofs.S
