/-
  DpllImplies, walked.
-/
import Derived.Test.YtfadkgkkbbcekaaDpO
import Derived.Test.YtfadkgkkbbcekaaSxT
import Derived.Test.YtfadkgkkbbcekaaClT
import Derived.Test.YtfadkgkkbbcekaaSxBt
import Derived.Deep.Slices
import Derived.Test.YtfadkgkkbbcekaaFoL
import Derived.Test.YtfadkgkkbbcekaaRows
import Derived.Test.YtfadkgkkbbcekaaChecked
set_option linter.unusedVariables false
set_option linter.unusedSimpArgs false
namespace Go.Proofs.S
open Go Go.Sx Go.Proofs Go.Cl Go.Dp

variable {h : Heap} {l cs : List (List Int)} {s s2 : Sl} {c : List Int}

theorem all_take {α : Type} {p : α → Bool} {L : List α} {i : Nat} (hi : i < L.length) : (L.take (i + 1)).all p = ((L.take i).all p && p L[i]) := by
  rw [take_succ_getE hi, List.all_append, List.all_cons, List.all_nil, Bool.and_true]

set_option maxHeartbeats 1000000 in
theorem dpllImplies_F {k : Int} (hA : At h (llu l s)) (hu : ∀ c ∈ l, U8 c) (hB : At h (lu c s2)) (hc : U8 c) (h0 : 0 ≤ k) (h1 : k ≤ 255) (K : Bool → HP) (hK : ∀ x h', (x = true ∧ Ext [] h h') → K x h') : F_salvorlaw19_DpllImplies s s2 k K h := by
  unfold F_salvorlaw19_DpllImplies
  show (callT _ _ _ _ _) h
  have st := Hs.start h [llu l s, lu c s2] (by simp [hA, hB])
  have hg := good8 l
  have hlen := good_len hg
  have hd := madeP_good c
  have hml := madeF_len l
  have hmp : (madeP c).length ≤ 20 := by unfold madeP; simp; omega
  have hsz : ∀ d ∈ madeF l, d.length ≤ 20 := by
    intro d hd
    unfold madeF at hd
    obtain ⟨e, _, rfl⟩ := List.mem_map.1 hd
    unfold madeP; simp; omega
  refine call_of (lawMade_c (st.fz 0 rfl) hu) ?_
  rintro _ h2 ⟨s', rfl, hn2, x2⟩
  have st := Hs.fzl (st.new x2 hn2)
  refine call_of (made_c (st.fz 1 rfl) hc) ?_
  rintro sm h3 ⟨hn3, x3⟩
  have st := Hs.fzl (st.new x3 hn3)
  generalize madeF l = M at *
  generalize madeP c = d at *
  refine st.nw fun b2 h4 st => ?_
  refine st.nw fun b3 h5 st => ?_
  simp only [List.cons_append, List.nil_append, addr_add, Nat.zero_add] at st ⊢
  refine st.st1 0 0 rfl (by simp) fun h6 st => ?_
  refine st.st1 0 1 rfl (by simp) fun h7 st => ?_
  refine st.st1 1 0 rfl (by simp) fun h8 st => ?_
  simp only [List.set_cons_zero, List.set_cons_succ] at st
  have st := (st.freeze 0 rfl).freeze 0 rfl
  simp only [List.cons_append, List.nil_append, List.eraseIdx_cons_zero] at st
  refine ldF (st.fblk 4 rfl) ?_
  rw [ld_sl (i := 0) (st.fblk 5 rfl) rfl]
  have impl := fun {h' : Heap} {p : Sl} {e : List Int} (q : At h' (llo M s')) (hp : At h' (li e p)) (hr : rightC e = true) (hb : ∀ x ∈ e, beyP 8 x = false) =>
    (implied_good hg hr hb) ▸ implied_c (n := 8) (fu := 1000) (llo_at q) hp hlen.1 hlen.2 (by have := rightC_len hr; omega) (fun _ => by decide)
  refine call_of (impl (st.fz 2 rfl) (st.fz 3 rfl).rsl hd.1 hd.2) ?_
  rintro _ h9 ⟨rfl, x9⟩
  have st := st.ext x9
  refine ldF (st.fblk 4 rfl) ?_
  refine Hs.Models (n := 8) (cs := M) st (llo_at (st.fz 2 rfl)) (fun hc' => absurd (check_good.2 hg) hc') (fun _ hn => absurd hn (by decide)) (fun v hv hc0 hv16 b sq h10 st => ?_)
  have ev : v = 8 := by omega
  subst ev
  simp only [List.cons_append, List.nil_append] at st
  refine jn_in fun J hJ => brF rfl ?_
  refine ⟨.inr ⟨_, _, _, rfl⟩, hJ _ _ (brF rfl ?_)⟩
  clear J hJ
  refine st.nw fun b11 h11 st => ?_
  refine st.st1 0 0 rfl (by simp) fun h12 st => ?_
  simp only [List.cons_append, List.nil_append, List.set_cons_zero] at st
  refine st.rangeG (modNx 8 M) (modGf 8 M) (modFin 8 M) (models_hit 6 7 rfl rfl hg hv16) (fun _ _ _ _ => rfl)
    (fun pre Bs => Bs = [cl b11 ty_bool [.bool (((modelsF 8 M).take pre.length).all fun m => d.any (Fo.tru m))]])
    (fun _ _ => False) (by simp) ?_ ?_ (fun _ _ hf => hf.elim) (fun i id K hi => by simp at hi)
  · rintro pre ⟨x, ⟨⟩⟩ Bs B hb hnx rfl st next jump hnext hjump
    have hlt : pre.length < (modelsF 8 M).length := hnx
    have eg : modGf 8 M pre (x, ()) = ob (modelsF 8 M)[pre.length] x := by
      show ob ((modelsF 8 M).getD pre.length []) x = _
      rw [List.getD_eq_getElem?_getD, List.getElem?_eq_getElem hlt]; rfl
    rw [eg] at st
    simp only [List.cons_append, List.nil_append] at st
    have hm8 := (modelsF_row (List.getElem_mem hlt)).1
    rw [st.ldb 0 0 rfl rfl]
    refine jn_in fun J hJ => ?_
    have fin : ∀ (t : Bool) (h' : Heap), t = (((modelsF 8 M).take (pre.length + 1)).all fun m => d.any (Fo.tru m)) →
        Hs ((B, hb) :: [([], h)]) [llu l s, lu c s2, llo M s', lo d sm, cl b2 ty_formula_Formula [.int .i64 8, .slice s'.a s'.len s'.cap], cl b3 ty_clauses_Clause [.slice sm.a sm.len sm.cap], cF b 8 sq, lli M sq]
          [cl b11 ty_bool [.bool (((modelsF 8 M).take pre.length).all fun m => d.any (Fo.tru m))], ob (modelsF 8 M)[pre.length] x] h' → J t h' := by
      rintro t h' rfl st
      refine hJ _ _ ?_
      refine st.st1 0 0 rfl (by simp) fun h13 st => ?_
      simp only [List.set_cons_zero] at st
      have st := st.drop 1 rfl
      simp only [List.eraseIdx_cons_succ, List.eraseIdx_cons_zero] at st
      refine hnext _ _ ?_ st
      rw [List.length_append, List.length_singleton]
    cases hall : ((modelsF 8 M).take pre.length).all fun m => d.any (Fo.tru m)
    rotate_left
    · refine brT rfl ?_
      rw [ld_sl (i := 0) (st.fblk 5 rfl) rfl]
      refine call_of (fholds_c (st.fz 3 rfl).rsl (st.own 1 rfl).rsl) ?_
      rintro _ h13 ⟨rfl, x13⟩
      refine fin _ _ ?_ (st.ext x13)
      rw [holdsF_good hd.1 hd.2 hm8, all_take hlt, hall, Bool.true_and]; rfl
    · refine brF rfl (fin _ _ ?_ st)
      rw [all_take hlt, hall, Bool.false_and]
  · rintro pre Bs h13 hfin rfl st
    have hfin : pre.length = (modelsF 8 M).length := hfin
    rw [hfin, List.take_length] at st
    rw [st.ldb 0 0 rfl rfl]
    refine brF (by simp) ?_
    rw [ld_sl (i := 1) (st.fblk 4 rfl) rfl]
    have lM := rsg_len (llo_at (st.fz 2 rfl))
    have st := st.drop 0 rfl
    simp only [List.eraseIdx_cons_zero] at st
    refine jn_in fun J hJ => ?_
    have fin : ∀ (t : Bool) (h' : Heap), Hs [([], h)] [llu l s, lu c s2, llo M s', lo d sm, cl b2 ty_formula_Formula [.int .i64 8, .slice s'.a s'.len s'.cap], cl b3 ty_clauses_Clause [.slice sm.a sm.len sm.cap], cF b 8 sq, lli M sq] [] h' → J (t, ()) h' := by
      intro t h' st
      refine hJ _ _ ?_
      refine call_of (dawake_c _) ?_
      rintro _ h14 ⟨rfl, x14⟩ h15 hM
      have st := (st.ext x14).marked hM
      exact hK _ _ ⟨rfl, st.frame (by simp)⟩
    by_cases hz : 0 < M.length
    · refine brT (decide_eq_true (show (0 : Int) < (s'.len : Int) by omega)) ?_
      obtain ⟨w, rfl⟩ := Int.eq_ofNat_of_zero_le h0
      rw [ld_sl (i := 1) (st.fblk 4 rfl) rfl]
      refine (nz_ok (show (s'.len : Int) ≠ 0 by omega)).mpr ?_
      have e1 : Int.tmod (IntKind.wrap .i64 ((w : Nat) : Int)) (s'.len : Int) = ((w % M.length : Nat) : Int) := by
        rw [wrap_i64 (by omega) (by omega), lM]; rfl
      have e2 : Int.tmod (IntKind.wrap .i64 (IntKind.wrap .u8 (Int.tdiv ((w : Nat) : Int) 16))) (s'.len : Int) = ((w / 16 % M.length : Nat) : Int) := by
        have e3 : Int.tdiv ((w : Nat) : Int) 16 = ((w / 16 : Nat) : Int) := rfl
        have e4 : IntKind.wrap .u8 ((w / 16 : Nat) : Int) = ((w / 16 : Nat) : Int) := by
          simp [IntKind.wrap, IntKind.bits, IntKind.signed]
          omega
        rw [e3, e4, wrap_i64 (by omega) (by omega), lM]; rfl
      rw [e1]
      have hi1 : w % M.length < M.length := Nat.mod_lt _ hz
      have hi2 : w / 16 % M.length < M.length := Nat.mod_lt _ hz
      generalize w % M.length = i at *
      refine rdG (llo_at (st.fz 2 rfl)) hi1 fun p hp => ?_
      rw [ld_sl (i := 1) (st.fblk 4 rfl) rfl]
      refine (nz_ok (show (16 : Int) ≠ 0 by decide)).mpr ?_
      refine (nz_ok (show (s'.len : Int) ≠ 0 by omega)).mpr ?_
      rw [e2]
      generalize w / 16 % M.length = j at *
      refine rdG (llo_at (st.fz 2 rfl)) hi2 fun q hq => ?_
      refine ldF (st.fblk 4 rfl) ?_
      obtain ⟨rx, gx⟩ := hg.2.2 _ (List.getElem_mem hi1)
      obtain ⟨ry, gy⟩ := hg.2.2 _ (List.getElem_mem hi2)
      have zx := hsz _ (List.getElem_mem hi1)
      have zy := hsz _ (List.getElem_mem hi2)
      have mx : M[i] ∈ M := List.getElem_mem hi1
      have my : M[j] ∈ M := List.getElem_mem hi2
      have own : ∀ e ∈ M, ∀ m ∈ modelsF 8 M, e.any (Fo.tru m) = true := fun e he m hm => List.all_eq_true.1 (mem_modelsT.1 hm).2 e he
      refine call_of (impl (st.fz 2 rfl) hp rx gx) ?_
      rintro _ h14 ⟨rfl, x14⟩
      rw [List.all_eq_true.2 (own _ mx)]
      have st := st.ext x14
      have hp := hp.ext x14
      have hq := hq.ext x14
      refine call_of (clashes_c hp hq) ?_
      rintro _ h15 ⟨r15, rfl, n15, x15⟩
      have ecl : clashesP M[i] M[j] = ((nrm M[i]).filter (fun l => M[j].contains (-l)), 0) := by unfold clashesP; rw [rx, ry]; rfl
      rw [ecl] at n15 ⊢
      have st := st.new x15 n15
      have hp := hp.ext x15
      have hq := hq.ext x15
      simp only [List.nil_append] at st
      refine jn_in fun J2 hJ2 => brF rfl (hJ2 _ _ (brF rfl ?_))
      clear J2 hJ2
      have l15 := osl_len (st.own 0 rfl)
      have hmem : ∀ l ∈ (nrm M[i]).filter (fun l => M[j].contains (-l)), l ∈ M[i] ∧ -l ∈ M[j] := fun l hl => by
        obtain ⟨q1, q2⟩ := List.mem_filter.1 hl
        exact ⟨(mem_nrm rx).1 q1, by simpa using q2⟩
      have hcl : ((nrm M[i]).filter (fun l => M[j].contains (-l))).length ≤ 4096 := Nat.le_trans (List.length_filter_le _ _) (Nat.le_trans (nrm_length _) (rightC_len rx))
      generalize (nrm M[i]).filter (fun l => M[j].contains (-l)) = C at *
      refine lfp_invh (I := fun μ σ h' => ∃ n : Nat, σ = ((n : Int), false, ()) ∧ n ≤ C.length ∧ Hs [([], h)] [llu l s, lu c s2, llo M s', lo d sm, cl b2 ty_formula_Formula [.int .i64 8, .slice s'.a s'.len s'.cap], cl b3 ty_clauses_Clause [.slice sm.a sm.len sm.cap], cF b 8 sq, lli M sq] [osl ty_lits_Lit i64.enc C r15] h' ∧ At h' (li M[i] p) ∧ At h' (li M[j] q) ∧ μ = C.length - n)
        ⟨_, 0, rfl, by omega, st, hp, hq, rfl⟩ ?_
      clear st hp hq
      rintro μ σ h16 X ⟨n, rfl, hn, st, hp, hq, em⟩ hX
      simp only
      by_cases hlt : n < C.length
      · refine brT (by rw [l15]; exact dlt_t hlt) ?_
        rw [inc_i (show n < 4611686018427387904 by omega)]
        refine rdE (τ := i64) (st.own 0 rfl).rsl hlt ?_
        obtain ⟨ha, hb⟩ := hmem _ (List.getElem_mem hlt)
        generalize C[n] = by_ at *
        have rb : rt by_ = true := rightC_rt rx by_ ha
        obtain ⟨e0, hh⟩ := res_holds rx ry gx gy rb (by omega) ha hb
        obtain ⟨er, hrr, hrm⟩ := mem_res rx ry rb (by omega) ha hb
        refine call_of (resolve_c hp hq by_) ?_
        rintro _ h19 ⟨r39, rfl, n19, x19⟩
        have st := st.new x19 n19
        simp only [List.nil_append, List.cons_append] at st
        refine ldF (st.fblk 4 rfl) ?_
        have hbr : ∀ x ∈ (resolveP M[i] M[j] by_).1, beyP 8 x = false := by
          rw [er]
          intro x hx
          rcases (hrm x).1 hx with k | k
          · exact gx x k.1
          · exact gy x k.1
        have hrr : rightC (resolveP M[i] M[j] by_).1 = true := by rw [er]; exact hrr
        refine call_of (impl (st.fz 2 rfl) (st.own 1 rfl).rsl hrr hbr) ?_
        rintro _ h20 ⟨rfl, x20⟩
        have hres : ∀ m ∈ modelsF 8 M, (resolveP M[i] M[j] by_).1.any (Fo.tru m) = true := by
          intro m hm
          have hm8 := (mem_modelsT.1 hm).1
          have := hh m hm8 (own _ mx m hm) (own _ my m hm)
          rw [holdsF_good hrr hbr hm8] at this
          exact this
        rw [List.all_eq_true.2 hres, e0]
        have hp := (hp.ext x19).ext x20
        have hq := (hq.ext x19).ext x20
        have st := (st.ext x20).drop 1 rfl
        refine jn_in fun J2 hJ2 => brF rfl (hJ2 _ _ (brF rfl ?_))
        exact hX _ _ _ ⟨n + 1, rfl, by omega, st, hp, hq, rfl⟩ (by omega)
      · refine brF (by rw [l15]; exact dlt_f hlt) ?_
        exact fin _ _ (st.drop 0 rfl)
    · refine brF (decide_eq_false (show ¬ (0 : Int) < (s'.len : Int) by omega)) (fin _ _ st)

end Go.Proofs.S

set_option linter.unusedVariables false
namespace Go.Sx
open Go Go.ChangeShapes Go.WideShapes Go.ChangeAt Go.RowKit

section
variable {H : Type} {enc : TypeId × Value → H} {P : Program} {W : World}

def Reads (H : Type) (enc : TypeId × Value → H) (P : Program) (W : World) (t : TypeId) (cs : List Value) : Prop := ∃ fuel x, DataW.trod enc P W 0 (fun _ => true) true fuel t cs = some x

theorem reads_slice {t e : TypeId} {n : Nat} {cs : List Value} (ht : P.underlying t = some (.slice e)) (hc : P.cellsOf e = n) (h : Reads H enc P W t cs) :
    ∃ s : Sl, cs = [.slice s.a s.len s.cap] ∧ s.len ≤ s.cap ∧ (s.a = none → s.len = 0) ∧
      ∀ a, s.a = some a → ∀ i, i < s.len → ∃ cs', cs'.length = n ∧ (∀ j, j < n → cell W.heap (a.add (i * n + j)) = cs'[j]?) ∧ Reads H enc P W e cs' := by
  obtain ⟨fuel, x, h⟩ := h
  rcases Go.Deep.open_slice ht h with ⟨rfl, _⟩ | ⟨a, len, cap, m, k, D, Pl, rfl, _, hl, _, hm, _, hx⟩
  · exact ⟨⟨none, 0, 0⟩, rfl, Nat.le_refl _, fun _ => rfl, fun a e => by cases e⟩
  · refine ⟨⟨some a, len, cap⟩, rfl, hl, fun e => (by cases e), fun a' e i hi => ?_⟩
    cases e
    simp only [if_true] at hm
    subst hm
    simp only at hi
    obtain ⟨cs', h1, h2⟩ := hx i (by omega)
    rw [hc] at h1
    obtain ⟨_, hlen, hcell⟩ := World.cells?_some h1
    refine ⟨cs', hlen, fun j hj => ?_, k, _, h2⟩
    have := hcell j hj
    rw [← addr_add_add]; exact this

theorem reads_struct {t : TypeId} {fs : Array Field} {cs : List Value} (ht : P.underlying t = some (.struct fs)) (h : Reads H enc P W t cs) :
    cs.length = P.cellsOf t ∧ ∀ (i : Nat) (f : Field), fs[i]? = some f → Reads H enc P W f.type ((cs.drop f.offset).take (P.cellsOf f.type)) := by
  obtain ⟨fuel, x, h⟩ := h
  obtain ⟨xs, n, _, _, hl, hxl, hf⟩ := DataW.trod_struct ht h
  refine ⟨hl, fun i f hi => ?_⟩
  have := hf i f hi
  have hlt : i < fs.size := (Array.getElem?_eq_some_iff.1 hi).1
  rw [List.getElem?_eq_getElem (by omega)] at this
  exact ⟨n, _, this⟩
theorem reads_int {t : TypeId} {k : IntKind} {cs : List Value} (ht : P.underlying t = some (.int k)) (h : Reads H enc P W t cs) : ∃ n, cs = [.int k n] ∧ (Lit.int k n).wf = true := by
  obtain ⟨fuel, x, h⟩ := h
  obtain ⟨n, e, _, w⟩ := DataW.trod_int ht h
  exact ⟨n, e, w⟩
theorem reads_bool {t : TypeId} {cs : List Value} (ht : P.underlying t = some .bool) (h : Reads H enc P W t cs) : ∃ b, cs = [.bool b] := by
  obtain ⟨fuel, x, h⟩ := h
  obtain ⟨n, e, _⟩ := DataW.trod_bool ht h
  exact ⟨n, e⟩

theorem cell_isCells {h : Heap} {a : Addr} {v : Value} (hc : cell h a = some v) : isCells h a.block := by
  unfold cell at hc
  split at hc
  · rename_i c t f hb; exact .inl ⟨c, t, f, hb⟩
  · cases hc
theorem add_block (a : Addr) (i : Nat) : (a.add i).block = a.block := by unfold Addr.add; split <;> rfl

theorem pick_list {α : Type} : ∀ {n : Nat} {Q : Nat → α → Prop}, (∀ i, i < n → ∃ x, Q i x) → ∃ xs : List α, xs.length = n ∧ ∀ i x, xs[i]? = some x → Q i x
  | 0, Q, _ => ⟨[], rfl, fun i x h => by simp at h⟩
  | n + 1, Q, h => by
    obtain ⟨xs, hl, hx⟩ := pick_list (n := n) (Q := Q) fun i hi => h i (by omega)
    obtain ⟨y, hy⟩ := h n (by omega)
    refine ⟨xs ++ [y], by simp [hl], fun i x hi => ?_⟩
    rcases Nat.lt_trichotomy i n with q | q | q
    · rw [List.getElem?_append_left (by omega)] at hi; exact hx i x hi
    · subst q
      rw [List.getElem?_append_right (by omega), hl] at hi
      simp at hi; subst hi; exact hy
    · rw [List.getElem?_eq_none (by simp; omega)] at hi; cases hi

theorem rsn_of_reads {α : Type} {t e : TypeId} {n : Nat} {enc' : α → List Value} {Q : α → Prop} {cs : List Value} (ht : P.underlying t = some (.slice e)) (hc : P.cellsOf e = n) (hn : 0 < n)
    (hel : ∀ cs', Reads H enc P W e cs' → ∃ x : α, cs' = enc' x ∧ Q x) (h : Reads H enc P W t cs) :
    ∃ (s : Sl) (xs : List α), cs = [.slice s.a s.len s.cap] ∧ At W.heap (rsn n enc' xs s) ∧ ∀ x ∈ xs, Q x := by
  obtain ⟨s, rfl, hl, h0, hx⟩ := reads_slice ht hc h
  cases ha : s.a with
  | none =>
    refine ⟨s, [], by rw [ha], ⟨[], by simpa using h0 ha, hl, .inl ⟨rfl, rfl⟩⟩, by simp⟩
  | some a =>
    obtain ⟨xs, hxl, hxs⟩ := pick_list (n := s.len) (Q := fun i x => (∀ j, j < n → cell W.heap (a.add (i * n + j)) = (enc' x)[j]?) ∧ Q x ∧ (enc' x).length = n) fun i hi => by
      obtain ⟨cs', h1, h2, h3⟩ := hx a ha i hi
      obtain ⟨x, rfl, hq⟩ := hel cs' h3
      exact ⟨x, h2, hq, h1⟩
    refine ⟨s, xs, by rw [ha], ?_, fun x hx => ?_⟩
    · by_cases hz : xs = []
      · subst hz
        exact ⟨[], hxl.symm, hl, .inl ⟨rfl, rfl⟩⟩
      · have h1 : ∃ x, xs[0]? = some x := by cases xs with | nil => exact absurd rfl hz | cons x _ => exact ⟨x, rfl⟩
        obtain ⟨x, h1⟩ := h1
        obtain ⟨g1, _, g3⟩ := hxs 0 x h1
        have g := g1 0 hn
        rw [List.getElem?_eq_getElem (by omega)] at g
        have hC := cell_isCells g
        rw [add_block] at hC
        refine ⟨[a.block], hxl.symm, hl, .inr ⟨a, ha, rfl, hC, fun i y hy j v hv => ?_⟩⟩
        obtain ⟨k1, _, k3⟩ := hxs i y hy
        rw [k1 j (by have := (List.getElem?_eq_some_iff.1 hv).1; omega), hv]
    · obtain ⟨i, hi, e⟩ := List.mem_iff_getElem.1 hx
      exact (hxs i x (by rw [List.getElem?_eq_getElem hi, e])).2.1

theorem rsl_of_reads {α : Type} {t e : TypeId} {enc' : α → Value} {Q : α → Prop} {cs : List Value} (ht : P.underlying t = some (.slice e)) (hc : P.cellsOf e = 1)
    (hel : ∀ cs', Reads H enc P W e cs' → ∃ x : α, cs' = [enc' x] ∧ Q x) (h : Reads H enc P W t cs) :
    ∃ (s : Sl) (xs : List α), cs = [.slice s.a s.len s.cap] ∧ At W.heap (rsl enc' xs s) ∧ ∀ x ∈ xs, Q x := by
  obtain ⟨s, xs, e1, ⟨S, h1, h2, h3⟩, h4⟩ := rsn_of_reads (enc' := fun x => [enc' x]) (Q := Q) ht hc (by decide) hel h
  refine ⟨s, xs, e1, ⟨S, h1, h2, h3.imp id fun ⟨a, ea, eS, hC, hx⟩ => ⟨a, ea, eS, hC, fun i x hi => ?_⟩⟩, h4⟩
  have := hx i x hi 0 (enc' x) rfl
  simpa using this

theorem rsl_of_bools {t e : TypeId} {cs : List Value} (ht : P.underlying t = some (.slice e)) (he : P.underlying e = some .bool) (hc : P.cellsOf e = 1) (h : Reads H enc P W t cs) :
    ∃ (s : Sl) (xs : List Bool), cs = [.slice s.a s.len s.cap] ∧ At W.heap (rsl Ty.bool.enc xs s) := by
  obtain ⟨s, xs, a, b, _⟩ := rsl_of_reads (enc' := Ty.bool.enc) (Q := fun _ => True) ht hc (fun cs' h' => by
    obtain ⟨b, e⟩ := reads_bool he h'
    exact ⟨b, e, trivial⟩) h
  exact ⟨s, xs, a, b⟩
theorem rsl_of_int {t e : TypeId} {k : IntKind} {cs : List Value} (ht : P.underlying t = some (.slice e)) (he : P.underlying e = some (.int k)) (hc : P.cellsOf e = 1) (h : Reads H enc P W t cs) :
    ∃ (s : Sl) (xs : List Int), cs = [.slice s.a s.len s.cap] ∧ At W.heap (rsl (Ty.int k).enc xs s) ∧ ∀ x ∈ xs, (Lit.int k x).wf = true :=
  rsl_of_reads (enc' := (Ty.int k).enc) ht hc (fun cs' h' => reads_int he h') h

theorem rsg_of_reads {β : Type} {t e : TypeId} {I : β → Sl → Asn} {Q : β → Prop} {cs : List Value} (ht : P.underlying t = some (.slice e)) (hc : P.cellsOf e = 1)
    (hel : ∀ cs', Reads H enc P W e cs' → ∃ (s : Sl) (x : β), cs' = [.slice s.a s.len s.cap] ∧ At W.heap (I x s) ∧ Q x) (h : Reads H enc P W t cs) :
    ∃ (s : Sl) (xs : List β), cs = [.slice s.a s.len s.cap] ∧ At W.heap (rsg I xs s) ∧ ∀ x ∈ xs, Q x := by
  obtain ⟨s, ps, e1, hA, hq⟩ := rsl_of_reads (α := Sl) (enc' := Ty.sl.enc) (Q := fun p => ∃ x, At W.heap (I x p) ∧ Q x) ht hc (fun cs' h' => by
    obtain ⟨p, x, e2, h2, h3⟩ := hel cs' h'
    exact ⟨p, e2, x, h2, h3⟩) h
  obtain ⟨xs, hxl, hx⟩ := pick_list (n := ps.length) (Q := fun i x => ∀ hi : i < ps.length, At W.heap (I x ps[i]) ∧ Q x) fun i hi => by
    obtain ⟨x, h1⟩ := hq ps[i] (List.getElem_mem hi)
    exact ⟨x, fun _ => h1⟩
  refine ⟨s, xs, e1, rsg_at hxl.symm hA fun i h1 h2 => (hx i _ (List.getElem?_eq_getElem h1) h2).1, fun x hx' => ?_⟩
  obtain ⟨i, hi, e⟩ := List.mem_iff_getElem.1 hx'
  exact (hx i x (by rw [List.getElem?_eq_getElem hi, e]) (by omega)).2

theorem reads_arg_sl {t e : TypeId} {base : Nat} {v : Value} {d : DataW H} {p : List MemPlace} (ht : P.underlying t = some (.slice e)) (hval : Value.okWide P W .any base t v)
    (h : DataW.Trod enc P W 0 (fun _ => true) true t v d p) : ∃ s : Sl, v = .slice s.a s.len s.cap ∧ Reads H enc P W t [.slice s.a s.len s.cap] := by
  obtain ⟨a0, len, cap, rfl⟩ := okWide_slice ht hval
  obtain ⟨fuel, hf⟩ := h
  exact ⟨⟨a0, len, cap⟩, rfl, fuel, _, by simpa [Value.cells] using hf⟩

theorem trod4 {w : World} {base : Nat} {spare : Nat → Bool} {held : Bool} {t0 t1 t2 t3 : TypeId} {args : Array Value} {ds : List (DataW H)} {ps : List MemPlace} (h : DataW.TrodAll enc P w base spare held [t0, t1, t2, t3] args.toList ds ps) :
    ∃ v0 v1 v2 v3 d0 d1 d2 d3 p0 p1 p2 p3, args = #[v0, v1, v2, v3] ∧ ds = [d0, d1, d2, d3] ∧ ps = p0 ++ p1 ++ p2 ++ p3 ∧ DataW.Trod enc P w base spare held t0 v0 d0 p0 ∧ DataW.Trod enc P w base spare held t1 v1 d1 p1 ∧
      DataW.Trod enc P w base spare held t2 v2 d2 p2 ∧ DataW.Trod enc P w base spare held t3 v3 d3 p3 := by
  obtain ⟨v0, vs, d0, ds0, p0, q0, hargs, rfl, rfl, h0, hr⟩ := trodAll_cons h
  obtain ⟨v1, vs, d1, ds1, p1, q1, rfl, rfl, rfl, h1, hr⟩ := trodAll_cons hr
  obtain ⟨v2, vs, d2, ds2, p2, q2, rfl, rfl, rfl, h2, hr⟩ := trodAll_cons hr
  obtain ⟨v3, vs, d3, ds3, p3, q3, rfl, rfl, rfl, h3, hr⟩ := trodAll_cons hr
  obtain ⟨rfl, rfl, rfl⟩ := trodAll_nil hr
  exact ⟨v0, v1, v2, v3, d0, d1, d2, d3, p0, p1, p2, p3, by cases args; simp_all, rfl, by simp, h0, h1, h2, h3⟩
theorem trod5 {w : World} {base : Nat} {spare : Nat → Bool} {held : Bool} {t0 t1 t2 t3 t4 : TypeId} {args : Array Value} {ds : List (DataW H)} {ps : List MemPlace} (h : DataW.TrodAll enc P w base spare held [t0, t1, t2, t3, t4] args.toList ds ps) :
    ∃ v0 v1 v2 v3 v4 d0 d1 d2 d3 d4 p0 p1 p2 p3 p4, args = #[v0, v1, v2, v3, v4] ∧ ds = [d0, d1, d2, d3, d4] ∧ ps = p0 ++ p1 ++ p2 ++ p3 ++ p4 ∧ DataW.Trod enc P w base spare held t0 v0 d0 p0 ∧ DataW.Trod enc P w base spare held t1 v1 d1 p1 ∧
      DataW.Trod enc P w base spare held t2 v2 d2 p2 ∧ DataW.Trod enc P w base spare held t3 v3 d3 p3 ∧ DataW.Trod enc P w base spare held t4 v4 d4 p4 := by
  obtain ⟨v0, vs, d0, ds0, p0, q0, hargs, rfl, rfl, h0, hr⟩ := trodAll_cons h
  obtain ⟨v1, vs, d1, ds1, p1, q1, rfl, rfl, rfl, h1, hr⟩ := trodAll_cons hr
  obtain ⟨v2, vs, d2, ds2, p2, q2, rfl, rfl, rfl, h2, hr⟩ := trodAll_cons hr
  obtain ⟨v3, vs, d3, ds3, p3, q3, rfl, rfl, rfl, h3, hr⟩ := trodAll_cons hr
  obtain ⟨v4, vs, d4, ds4, p4, q4, rfl, rfl, rfl, h4, hr⟩ := trodAll_cons hr
  obtain ⟨rfl, rfl, rfl⟩ := trodAll_nil hr
  exact ⟨v0, v1, v2, v3, v4, d0, d1, d2, d3, d4, p0, p1, p2, p3, p4, by cases args; simp_all, rfl, by simp, h0, h1, h2, h3, h4⟩

theorem arg_ints {t e : TypeId} {k : IntKind} {base : Nat} {v : Value} {d : DataW H} {p : List MemPlace} (ht : P.underlying t = some (.slice e)) (he : P.underlying e = some (.int k)) (hc : P.cellsOf e = 1)
    (hval : Value.okWide P W .any base t v) (h : DataW.Trod enc P W 0 (fun _ => true) true t v d p) : ∃ (s : Sl) (zs : List Int), v = .slice s.a s.len s.cap ∧ At W.heap (rsl (Ty.int k).enc zs s) ∧ ∀ z ∈ zs, (Lit.int k z).wf = true := by
  obtain ⟨s, rfl, hr⟩ := reads_arg_sl ht hval h
  obtain ⟨s', zs, e, hA, hw⟩ := rsl_of_int ht he hc hr
  simp only [List.cons.injEq, Value.slice.injEq, and_true] at e
  obtain ⟨e1, e2, e3⟩ := e
  have es : s' = s := by cases s; cases s'; simp_all
  subst es
  exact ⟨s', zs, rfl, hA, hw⟩
theorem arg_bools {t e : TypeId} {base : Nat} {v : Value} {d : DataW H} {p : List MemPlace} (ht : P.underlying t = some (.slice e)) (he : P.underlying e = some .bool) (hc : P.cellsOf e = 1)
    (hval : Value.okWide P W .any base t v) (h : DataW.Trod enc P W 0 (fun _ => true) true t v d p) : ∃ (s : Sl) (zs : List Bool), v = .slice s.a s.len s.cap ∧ At W.heap (rsl Ty.bool.enc zs s) := by
  obtain ⟨s, rfl, hr⟩ := reads_arg_sl ht hval h
  obtain ⟨s', zs, e, hA⟩ := rsl_of_bools ht he hc hr
  simp only [List.cons.injEq, Value.slice.injEq, and_true] at e
  obtain ⟨e1, e2, e3⟩ := e
  have es : s' = s := by cases s; cases s'; simp_all
  subst es
  exact ⟨s', zs, rfl, hA⟩
theorem arg_wide {α : Type} {n : Nat} {enc' : α → List Value} {Q : α → Prop} {t e : TypeId} {base : Nat} {v : Value} {d : DataW H} {p : List MemPlace} (ht : P.underlying t = some (.slice e)) (hc : P.cellsOf e = n) (hn : 0 < n)
    (hel : ∀ cs', Reads H enc P W e cs' → ∃ x : α, cs' = enc' x ∧ Q x)
    (hval : Value.okWide P W .any base t v) (h : DataW.Trod enc P W 0 (fun _ => true) true t v d p) : ∃ (s : Sl) (zs : List α), v = .slice s.a s.len s.cap ∧ At W.heap (rsn n enc' zs s) ∧ ∀ z ∈ zs, Q z := by
  obtain ⟨s, rfl, hr⟩ := reads_arg_sl ht hval h
  obtain ⟨s', zs, e, hA, hw⟩ := rsn_of_reads ht hc hn hel hr
  simp only [List.cons.injEq, Value.slice.injEq, and_true] at e
  obtain ⟨e1, e2, e3⟩ := e
  have es : s' = s := by cases s; cases s'; simp_all
  subst es
  exact ⟨s', zs, rfl, hA, hw⟩

end
end Go.Sx

set_option linter.unusedVariables false
namespace Go.Proofs.Ytfadkgkkbbcekaa
open Go Go.Sx

theorem own_ : ownKnob Try.prog.godebug = none := by kernel_rfl
theorem laidOut_ : laidOutB Try.prog = true := by kernel_rfl
theorem cells3_ : Try.prog.cellsOf 3 = 1 := by kernel_rfl
theorem cells4_ : Try.prog.cellsOf 4 = 1 := by kernel_rfl
theorem cells5_ : Try.prog.cellsOf 5 = 1 := by kernel_rfl
theorem cells31_ : Try.prog.cellsOf 31 = 1 := by kernel_rfl

variable {H : Type} {enc : TypeId × Value → H} {W : World} {base : Nat} {v : Value} {d : DataW H} {p : List MemPlace}

set_option maxRecDepth 100000 in
theorem arg_bs (hval : Value.okWide Try.prog W .any base 38 v) (h : DataW.Trod enc Try.prog W 0 (fun _ => true) true 38 v d p) :
    ∃ (s : Sl) (zs : List Bool), v = .slice s.a s.len s.cap ∧ At W.heap (Go.Proofs.S.lb zs s) ∧ True := by
  obtain ⟨s, zs, e, hA⟩ := arg_bools Try.underlying38 Try.underlying4 cells4_ hval h
  exact ⟨s, zs, e, hA, trivial⟩
set_option maxRecDepth 100000 in
theorem arg_is (hval : Value.okWide Try.prog W .any base 25 v) (h : DataW.Trod enc Try.prog W 0 (fun _ => true) true 25 v d p) :
    ∃ (s : Sl) (zs : List Int), v = .slice s.a s.len s.cap ∧ At W.heap (Go.Proofs.S.li zs s) ∧ ∀ z ∈ zs, (Lit.int .i64 z).wf = true := by
  obtain ⟨s, zs, e, hA, hw⟩ := arg_ints Try.underlying25 Try.underlying3 cells3_ hval h
  exact ⟨s, zs, e, hA, hw⟩
set_option maxRecDepth 100000 in
theorem arg_u8s (hval : Value.okWide Try.prog W .any base 31 v) (h : DataW.Trod enc Try.prog W 0 (fun _ => true) true 31 v d p) :
    ∃ (s : Sl) (zs : List Int), v = .slice s.a s.len s.cap ∧ At W.heap (Go.Proofs.S.lu zs s) ∧ Go.Proofs.S.U8 zs := by
  obtain ⟨s, zs, e, hA, hw⟩ := arg_ints Try.underlying31 Try.underlying5 cells5_ hval h
  exact ⟨s, zs, e, hA, Go.Proofs.S.u8_of fun z hz => wf_u8 (hw z hz)⟩
set_option maxRecDepth 100000 in
theorem arg_uu (hval : Value.okWide Try.prog W .any base 30 v) (h : DataW.Trod enc Try.prog W 0 (fun _ => true) true 30 v d p) :
    ∃ (s : Sl) (zs : List (List Int)), v = .slice s.a s.len s.cap ∧ At W.heap (Go.Proofs.S.llu zs s) ∧ ∀ c ∈ zs, Go.Proofs.S.U8 c := by
  obtain ⟨s, rfl, hr⟩ := reads_arg_sl Try.underlying30 hval h
  obtain ⟨s', zs, e, hA, hw⟩ := rsg_of_reads (I := fun c p => Go.Proofs.S.lu c p) (Q := Go.Proofs.S.U8) Try.underlying30 cells31_ (fun cs' h' => by
    obtain ⟨s2, xs, e2, hA2, hw2⟩ := rsl_of_int Try.underlying31 Try.underlying5 cells5_ h'
    exact ⟨s2, xs, e2, hA2, Go.Proofs.S.u8_of fun z hz => wf_u8 (hw2 z hz)⟩) hr
  simp only [List.cons.injEq, Value.slice.injEq, and_true] at e
  obtain ⟨e1, e2, e3⟩ := e
  have es : s' = s := by cases s; cases s'; simp_all
  subst es
  exact ⟨s', zs, rfl, hA, hw⟩

end Go.Proofs.Ytfadkgkkbbcekaa
