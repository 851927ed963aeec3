/-
  FormulaNorm, walked.
-/
import Derived.Test.YtmlamkoilggonaaGreatFoMo
set_option linter.unusedVariables false
set_option linter.unusedSimpArgs false
namespace Go.Proofs.S
open Go Go.Sx Go.Proofs Go.Cl

variable {h : Heap} {c d : List Int} {s s2 : Sl} {fr : Fr} {G As : List Asn} {m : List Bool} {sm : Sl} {k k2 : List Bool}

theorem any_nrm (hr : rightC c = true) (p : Int → Bool) : (nrm c).any p = c.any p := by
  rw [Bool.eq_iff_iff, List.any_eq_true, List.any_eq_true]
  exact ⟨fun ⟨x, a, b⟩ => ⟨x, (mem_nrm hr).1 a, b⟩, fun ⟨x, a, b⟩ => ⟨x, (mem_nrm hr).2 a, b⟩⟩
theorem alw_nrm (hr : rightC c = true) : alwaysC (nrm c) = alwaysC c := by
  rw [Bool.eq_iff_iff, always_iff, always_iff]
  exact ⟨fun ⟨x, a, b⟩ => ⟨x, (mem_nrm hr).1 a, (mem_nrm hr).1 b⟩, fun ⟨x, a, b⟩ => ⟨x, (mem_nrm hr).2 a, (mem_nrm hr).2 b⟩⟩
theorem alw_holds (hr : rightC c = true) (ha : alwaysC c = true) (m : List Bool) : c.any (trueIn m) = true := by
  obtain ⟨x, h1, h2⟩ := always_iff.1 ha
  rw [List.any_eq_true]
  cases ht : trueIn m x with
  | true => exact ⟨x, h1, ht⟩
  | false => exact ⟨-x, h2, by rw [trueIn_neg (rightC_rt hr x h1), ht]; rfl⟩
theorem normL_spec {M : List (List Int)} (hM : ∀ c ∈ M, rightC c = true) : StrictC compareP (normL M) ∧ (∀ c, c ∈ normL M ↔ ∃ d ∈ M, alwaysC d = false ∧ nrm d = c) ∧ ∀ c ∈ normL M, Nf c := by
  have hN : ∀ x ∈ (M.filter fun c => !alwaysC c).map nrm, Nf x := fun x hx => by
    obtain ⟨y, hy, rfl⟩ := List.mem_map.1 hx
    exact nf_nrm (hM y (List.mem_filter.1 hy).1)
  obtain ⟨a, b⟩ := sortC_spec totC hN
  refine ⟨a, fun c => ?_, fun c hc => hN c ((b c).1 hc)⟩
  show c ∈ sortC compareP _ ↔ _
  rw [b, List.mem_map]
  constructor
  · rintro ⟨d, hd, e⟩
    obtain ⟨q1, q2⟩ := List.mem_filter.1 hd
    exact ⟨d, q1, by simpa using q2, e⟩
  · rintro ⟨d, h1, h2, e⟩
    exact ⟨d, List.mem_filter.2 ⟨h1, by rw [h2]; rfl⟩, e⟩
theorem normL_congr {M N : List (List Int)} (hM : ∀ c ∈ M, rightC c = true) (hm : ∀ c, c ∈ N ↔ c ∈ M) : normL N = normL M := by
  obtain ⟨a1, a2, a3⟩ := normL_spec hM
  obtain ⟨b1, b2, b3⟩ := normL_spec fun c hc => hM c ((hm c).1 hc)
  refine StrictC.unique totC b3 a3 b1 a1 fun c => ?_
  rw [a2, b2]
  exact ⟨fun ⟨d, q, r⟩ => ⟨d, (hm d).1 q, r⟩, fun ⟨d, q, r⟩ => ⟨d, (hm d).2 q, r⟩⟩
theorem normL_idem {M : List (List Int)} (hM : ∀ c ∈ M, rightC c = true) : normL (normL M) = normL M := by
  obtain ⟨a1, a2, a3⟩ := normL_spec hM
  have hr : ∀ c ∈ normL M, rightC c = true := fun c hc => (a3 c hc).1
  obtain ⟨b1, b2, b3⟩ := normL_spec hr
  refine StrictC.unique totC b3 a3 b1 a1 fun c => ?_
  rw [b2]
  constructor
  · rintro ⟨d, hd, _, e⟩
    rw [← e, (a3 d hd).2]; exact hd
  · intro hc
    refine ⟨c, hc, ?_, (a3 c hc).2⟩
    obtain ⟨d, h1, h2, e⟩ := (a2 c).1 hc
    rw [← e, alw_nrm (hM d h1), h2]
theorem normL_len {M : List (List Int)} (hM : M.length ≤ 100) : (normL M).length ≤ 100 := by
  have key : ∀ (L N : List (List Int)), (L.foldl (fun N x => insC compareP x N) N).length ≤ N.length + L.length := by
    intro L
    induction L with
    | nil => intro N; simp
    | cons x L ih =>
      intro N
      have h1 := ih (insC compareP x N)
      have h2 : ∀ L : List (List Int), (insC compareP x L).length ≤ L.length + 1 := by
        intro L
        induction L with
        | nil => simp [insC]
        | cons y L ih =>
          unfold insC
          split
          · simp
          · split
            · simp
            · simp only [List.length_cons]; omega
      have h3 := h2 N
      simp only [List.foldl_cons, List.length_cons]; omega
  have h1 := key ((M.filter fun c => !alwaysC c).map nrm) []
  have h2 : ((M.filter fun c => !alwaysC c).map nrm).length ≤ M.length := by rw [List.length_map]; exact List.length_filter_le _ _
  show (List.foldl (fun N x => insC compareP x N) [] ((M.filter fun c => !alwaysC c).map nrm)).length ≤ 100
  simp only [List.length_nil] at h1
  omega
theorem normL_models {v : Nat} {M : List (List Int)} (hM : ∀ c ∈ M, rightC c = true) : modelsF v (normL M) = modelsF v M := by
  obtain ⟨a1, a2, a3⟩ := normL_spec hM
  unfold modelsF
  congr 1
  funext m
  rw [Bool.eq_iff_iff, decide_eq_true_eq, decide_eq_true_eq, failsGo_neg, failsGo_neg]
  constructor
  · intro q c hc
    cases ha : alwaysC c with
    | true => exact alw_holds (hM c hc) ha m
    | false =>
      have := q (nrm c) ((a2 _).2 ⟨c, hc, ha, rfl⟩)
      rwa [any_nrm (hM c hc)] at this
  · intro q c hc
    obtain ⟨d, h1, _, rfl⟩ := (a2 c).1 hc
    rw [any_nrm (hM d h1)]; exact q d h1
theorem normL_good {M : List (List Int)} (hl : M.length ≤ 100) (hM : ∀ c ∈ M, rightC c = true ∧ ∀ x ∈ c, beyP 8 x = false) : GoodF 8 (normL M) := by
  obtain ⟨a1, a2, a3⟩ := normL_spec fun c hc => (hM c hc).1
  refine ⟨by rfl, by have := normL_len hl; omega, fun c hc => ⟨(a3 c hc).1, fun x hx => ?_⟩⟩
  obtain ⟨d, h1, _, rfl⟩ := (a2 c).1 hc
  exact (hM d h1).2 x ((mem_nrm (hM d h1).1).1 hx)
theorem normF_good {n : Int} {M : List (List Int)} (hg : GoodF n M) : normF n M = ((n, normL M), 0) := by
  unfold normF; rw [if_neg (by simp [check_good.2 hg])]

theorem Hs.gsub {G' : List Asn} (hs : ∀ A ∈ G', A ∈ G) (st : Hs fr G As h) : Hs fr G' As h :=
  let ⟨S, a, b, c⟩ := st; ⟨S, a, fun A hA => b A (hs A hA), c⟩

theorem equalFunc_bools {fv : Value} {K : Bool → HP} (hW : W_equalFunc Tryz.prog .sl .sl s s2 fv K h) : callT Tryz.prog fn_slices_EqualFunc_bool_bool_bool_bool #[.slice s.a s.len s.cap, .slice s2.a s2.len s2.cap, fv] .bool K h :=
  S_slices_EqualFunc_bool_bool_bool_bool (a0 := s) (a1 := s2) (a2 := fv) K hW
theorem containsFunc_clauses {fv : Value} {p : List Int → Bool} {us : List (List Int)} (hA : At h (lli us s)) (hl : us.length ≤ 1099511627776)
    (hc : ∀ x ∈ us, ∀ q h', Ext [] h h' → At h' (li x q) → callF Tryz.prog fv #[Ty.sl.enc q] .bool (fun b h2 => b = p x ∧ Ext [] h' h2) h') :
    callT Tryz.prog fn_slices_ContainsFunc_clauses_Clause_clauses_Clause #[.slice s.a s.len s.cap, fv] .bool (fun r h' => r = us.any p ∧ Ext [] h h') h := by
  refine callT_gen fun K hK => S_slices_ContainsFunc_clauses_Clause_clauses_Clause (a0 := s) (a1 := fv) K ?_
  unfold F_slices_ContainsFunc_clauses_Clause_clauses_Clause
  refine call_of (R := fun r h' => r = fidx p us ∧ Ext [] h h') (callT_gen fun K hK => S_slices_IndexFunc_clauses_Clause_clauses_Clause (a0 := s) (a1 := fv) K (w_indexFuncG hA hl hc fun h' x => hK _ _ ⟨rfl, x⟩)) ?_
  rintro r h2 ⟨er, x⟩
  have er : r = fidx p us := er
  subst er
  exact hK _ _ ⟨fidx_ge _ _, x⟩
theorem norm2_c {b : Nat} (kb : Blk h b ty_clauses_Clause [.slice s.a s.len s.cap]) (hA : At h (li c s)) (hB : At h (li d s2)) :
    callT Tryz.prog fn_salvorlaw05_FormulaNorm_2 #[.slice s2.a s2.len s2.cap, .pointer (some ⟨b, 0, none⟩)] .bool (fun r h' => r = sameP d c ∧ Ext [] h h') h := by
  refine callT_gen fun K hK => S_salvorlaw05_FormulaNorm_2 (a0 := s2) (c0 := ⟨b, 0, none⟩) K ?_
  unfold F_salvorlaw05_FormulaNorm_2
  rw [ld_sl (i := 0) kb rfl]
  refine call_of (same_c hB hA) ?_
  rintro _ h2 ⟨rfl, x⟩
  exact hK _ _ ⟨rfl, x⟩
theorem growC_c {n : Int} {K : Sl → HP} (hW : W_grow ty_clauses_Clause 24 (.slice none 0 0) ⟨none, 0, 0⟩ n K h) : callT Tryz.prog fn_slices_Grow_clauses_Clause_clauses_Clause #[.slice none 0 0, .int .i64 n] .sl K h :=
  S_slices_Grow_clauses_Clause_clauses_Clause (a0 := ⟨none, 0, 0⟩) (a1 := n) K hW
theorem Inner.makeP {β : Type} {I : β → Sl → Asn} {Q : Nat → Prop} : ∀ {xs : List β} {ps : List Sl} {h : Heap}, ps.length = xs.length → (∀ i (h1 : i < xs.length) (h2 : i < ps.length), ∃ S, (I xs[i] ps[i]).P S h ∧ ∀ b ∈ S, Q b) → ∃ S, Inner I xs ps S h ∧ ∀ b ∈ S, Q b
  | [], [], _, _, _ => ⟨[], rfl, by simp⟩
  | x :: xs, p :: ps, h, hl, hi => by
    obtain ⟨S1, hp, g1⟩ := hi 0 (by simp) (by simp)
    obtain ⟨S2, hs, g2⟩ := Inner.makeP (Q := Q) (xs := xs) (ps := ps) (h := h) (by simpa using hl) fun i h1 h2 => hi (i + 1) (Nat.succ_lt_succ h1) (Nat.succ_lt_succ h2)
    exact ⟨S1 ++ S2, ⟨S1, S2, rfl, hp, hs⟩, fun b hb => (List.mem_append.1 hb).elim (g1 b) (g2 b)⟩
  | [], _ :: _, _, hl, _ => by simp at hl
  | _ :: _, [], _, hl, _ => by simp at hl
theorem gain_of {S S0 : List Nat} {B : Asn} {h' : Heap} (hs : Sep As S h) (hz : FzOk G S h) (hf : FrOk fr S h) (d0 : ∀ b ∈ S0, b ∉ S) (x : Ext [] h h') (hB : ∃ S', B.P S' h' ∧ ∀ b ∈ S', b ∈ S0 ∨ h.size ≤ b) : Hs fr (G ++ [B]) As h' := by
  refine ⟨S, hs.keep x.1 fun b hb => x.2 b (hs.cel b hb).lt (by simp), fun C hC => ?_, hf.ext x (by simp)⟩
  rcases List.mem_append.1 hC with hC | hC
  · exact hz.ext x (by simp) C hC
  · rw [List.mem_singleton.1 hC]
    obtain ⟨S', p, q⟩ := hB
    exact ⟨S', p, fun b hb hin => (q b hb).elim (fun k => d0 b k hin) fun k => by have := (hs.cel b hin).lt; omega⟩

theorem concat3_c {b : Nat} {t0 : TypeId} {M : List (List Int)} {n : Nat} {S0 : List Nat} (hA : (lli M s).P S0 h) (hn : n ≤ M.length) (hl : M.length ≤ 1000)
    (kb : Blk h b t0 [.slice (slR s n s.len 1).a (slR s n s.len 1).len (slR s n s.len 1).cap, .slice (slR s 0 n 1).a (slR s 0 n 1).len (slR s 0 n 1).cap, .slice (slR s 0 n 1).a (slR s 0 n 1).len (slR s 0 n 1).cap]) :
    callT Tryz.prog fn_slices_Concat_clauses_Clause_clauses_Clause #[.slice (some ⟨b, 0, none⟩) 3 3] .sl (fun s' h' => (∃ S', (lli (M.drop n ++ (M.take n ++ M.take n)) s').P S' h' ∧ ∀ b ∈ S', b ∈ S0 ∨ h.size ≤ b) ∧ Ext [] h h') h := by
  refine callT_gen fun K hK => S_slices_Concat_clauses_Clause_clauses_Clause (a0 := ⟨some ⟨b, 0, none⟩, 3, 3⟩) K ?_
  have hp : At h (rsl Ty.sl.enc [slR s n s.len 1, slR s 0 n 1, slR s 0 n 1] ⟨some ⟨b, 0, none⟩, 3, 3⟩) := ⟨[b], osl_rsl (t := t0) (.inl ⟨b, [], rfl, rfl, kb⟩)⟩
  obtain ⟨ps, T1, T2, eT, pT, iT⟩ := hA
  have hps := Inner.len iT
  have ho : At h (rsl Ty.sl.enc ps s) := ⟨T1, pT⟩
  have l1 := rsl_len ho
  have h1 := rsl_sub ho (l := n) (m := s.len) (by omega) (by omega)
  have h2 := rsl_sub ho (l := 0) (m := n) (by omega) (by omega)
  rw [List.take_of_length_le (by omega)] at h1
  rw [List.drop_zero] at h2
  refine w_concat (P := Tryz.prog) (τ := .sl) (t := ty_clauses_Clause) (by_ := 24) (z := .slice none 0 0) (fg := fn_slices_Grow_clauses_Clause_clauses_Clause) (xss := [ps.drop n, ps.take n, ps.take n]) hp rfl ?_ (by simp) (by simp; omega) (by decide) leaf_sl (fun n K h hW => growC_c hW) (fun s' h' a b => hK _ _ ⟨?_, b⟩)
  · intro i hi
    match i, hi with
    | 0, _ => exact h1
    | 1, _ => exact h2
    | 2, _ => exact h2
  · obtain ⟨U, pU, qU⟩ := a
    have pU : (rsl Ty.sl.enc (ps.drop n ++ (ps.take n ++ ps.take n)) s').P U h' := by simpa using osl_rsl pU
    have row : ∀ i (h3 : i < M.length) (h4 : i < ps.length), ∃ S, (li M[i] ps[i]).P S h' ∧ ∀ b ∈ S, b ∈ S0 ∨ h.size ≤ b := fun i h3 h4 => by
      obtain ⟨S, p, q⟩ := Inner.getS iT i h3 h4
      exact ⟨S, Asn.ext p b (by simp), fun b hb => .inl (by rw [eT]; exact List.mem_append_right _ (q b hb))⟩
    obtain ⟨V, pV, qV⟩ := Inner.makeP (I := fun c p => li c p) (Q := fun b => b ∈ S0 ∨ h.size ≤ b) (xs := M.drop n ++ (M.take n ++ M.take n)) (ps := ps.drop n ++ (ps.take n ++ ps.take n)) (h := h') (by simp; omega) fun i h3 h4 => by
      have key : ∃ j, ∃ (h5 : j < M.length) (h6 : j < ps.length), (M.drop n ++ (M.take n ++ M.take n))[i] = M[j] ∧ (ps.drop n ++ (ps.take n ++ ps.take n))[i] = ps[j] := by
        have e1 : (M.drop n).length = M.length - n := by simp
        have e2 : (ps.drop n).length = M.length - n := by simp; omega
        have e3 : (M.take n).length = n := by simp; omega
        have e4 : (ps.take n).length = n := by simp; omega
        have e5 : i < M.length - n + (n + n) := by simpa [e1, e3] using h3
        by_cases q : i < M.length - n
        · refine ⟨n + i, by omega, by omega, ?_, ?_⟩
          · rw [List.getElem_append_left (by omega), List.getElem_drop]
          · rw [List.getElem_append_left (by omega), List.getElem_drop]
        · by_cases q2 : i - (M.length - n) < n
          · refine ⟨i - (M.length - n), by omega, by omega, ?_, ?_⟩
            · rw [List.getElem_append_right (by omega), List.getElem_append_left (by omega), List.getElem_take]
              simp only [e1]
            · rw [List.getElem_append_right (by omega), List.getElem_append_left (by omega), List.getElem_take]
              simp only [e2]
          · refine ⟨i - (M.length - n) - n, by omega, by omega, ?_, ?_⟩
            · rw [List.getElem_append_right (by omega), List.getElem_append_right (by omega), List.getElem_take]
              simp only [e1, e3]
            · rw [List.getElem_append_right (by omega), List.getElem_append_right (by omega), List.getElem_take]
              simp only [e2, e4]
      obtain ⟨j, h5, h6, q1, q2⟩ := key
      rw [q1, q2]; exact row j h5 h6
    exact ⟨U ++ V, ⟨_, U, V, rfl, pU, pV⟩, fun b hb => (List.mem_append.1 hb).elim (fun k => .inr (qU b k)) (qV b)⟩

theorem formulaNorm_F {cs : List (List Int)} {w : Int} (hA : At h (llu cs s)) (hu : ∀ c ∈ cs, U8 c) (hw : 0 ≤ w ∧ w ≤ 255) (K : Bool → HP) (hK : ∀ x h', (x = true ∧ Ext [] h h') → K x h') : F_salvorlaw05_FormulaNorm s w K h := by
  unfold F_salvorlaw05_FormulaNorm
  obtain ⟨w, rfl⟩ := Int.eq_ofNat_of_zero_le hw.1
  refine call_of (lawMade_c hA hu) ?_
  rintro _ h1 ⟨r0, rfl, n1, x1⟩
  have hgood := madeF_good cs
  have hml := madeF_len cs
  have hG8 := good8 cs
  generalize madeF cs = M at *
  have hr : ∀ c ∈ M, rightC c = true := fun c hc => (hgood c hc).1
  have hGN := normL_good (M := M) (by omega) hgood
  have hNl := normL_len (M := M) (by omega)
  obtain ⟨n1s, n2s, n3s⟩ := normL_spec hr
  have st := ((Hs.start h [] (by simp)).new x1 n1).freeze 0 rfl
  simp only [List.nil_append, List.cons_append, List.eraseIdx_cons_zero] at st
  have lM := rsg_len (llo_at (st.fz 0 rfl))
  refine st.nw fun b1 h3 st => ?_
  simp only [addr_add, Nat.zero_add, List.nil_append]
  refine st.st1 0 0 rfl (by simp) fun h4 st => ?_
  refine st.st1 0 1 rfl (by simp) fun h5 st => ?_
  simp only [List.nil_append, List.set_cons_zero, List.set_cons_succ] at st
  refine ldF (s := r0) (st.blk 0 rfl) ?_
  refine call_of (fnorm_c (n := 8) (llo_at (st.fz 0 rfl))) ?_
  rintro _ h6 ⟨r3, rfl, n6, x6⟩
  rw [normF_good hG8] at n6 ⊢
  have st := (st.new x6 n6).freeze 1 rfl
  refine st.nw fun b4 h7 st => ?_
  simp only [addr_add, Nat.zero_add, List.nil_append, List.cons_append, List.eraseIdx_cons_succ, List.eraseIdx_cons_zero] at st ⊢
  refine st.st1 1 0 rfl (by simp) fun h8 st => ?_
  refine st.st1 1 1 rfl (by simp) fun h9 st => ?_
  have st := st.freeze 1 rfl
  simp only [List.nil_append, List.cons_append, List.set_cons_zero, List.set_cons_succ, List.eraseIdx_cons_succ, List.eraseIdx_cons_zero] at st
  refine ldF (s := r3) (st.fblk 2 rfl) ?_
  refine call_of (fnorm_c (n := 8) (lgo_at (st.fz 1 rfl))) ?_
  rintro _ h10 ⟨r6, rfl, n10, x10⟩
  rw [normF_good hGN, normL_idem hr] at n10 ⊢
  have st := (st.new x10 n10).freeze 1 rfl
  refine st.nw fun b7 h11 st => ?_
  simp only [addr_add, Nat.zero_add, List.nil_append, List.cons_append, List.eraseIdx_cons_succ, List.eraseIdx_cons_zero] at st ⊢
  refine st.st1 1 0 rfl (by simp) fun h12 st => ?_
  refine st.st1 1 1 rfl (by simp) fun h13 st => ?_
  have st := st.freeze 1 rfl
  simp only [List.nil_append, List.cons_append, List.set_cons_zero, List.set_cons_succ, List.eraseIdx_cons_succ, List.eraseIdx_cons_zero] at st
  refine ldF (s := r0) (st.blk 0 rfl) ?_
  refine call_of (collected_c (v := 8) (llo_at (st.fz 0 rfl)) hG8 (by decide)) ?_
  rintro _ h14 ⟨r9, rfl, n14, x14⟩
  have st := (st.new x14 n14).freeze 1 rfl
  simp only [List.nil_append, List.cons_append, List.eraseIdx_cons_zero, List.eraseIdx_cons_succ] at st
  refine ldF (s := r3) (st.fblk 2 rfl) ?_
  refine call_of (collected_c (v := 8) (lgo_at (st.fz 1 rfl)) hGN (by decide)) ?_
  rintro _ h15 ⟨r11, rfl, n15, x15⟩
  rw [normL_models hr] at n15
  have st := (st.new x15 n15).freeze 1 rfl
  simp only [List.nil_append, List.cons_append, List.eraseIdx_cons_zero, List.eraseIdx_cons_succ] at st
  show (brB false _ (brB false _ (brB false _ _))) h15
  rw [brB_false, brB_false, brB_false]
  refine ldF (s := r3) (st.fblk 2 rfl) ?_
  refine ldF (s := r6) (st.fblk 4 rfl) ?_
  have hcl : ∀ c ∈ normL M, c.length ≤ 1099511627776 := fun c hc => by have := rightC_len (n3s c hc).1; omega
  refine call_of (Same_c (n := 8) (n2 := 8) (cs := normL M) (ds := normL M) (lgo_at (st.fz 1 rfl)) (lgo_at (st.fz 3 rfl)) (by omega) hcl) ?_
  rintro r h16 ⟨er, x16⟩
  have er : r = true := er.trans (by simp)
  subst er
  have st := st.ext x16
  rw [Bool.not_true, brB_false]
  have hle := modelsF_le 8 M (by decide)
  have hrow : ∀ m ∈ modelsF 8 M, m.length = 8 := fun m hm => (mem_models.1 hm).1
  refine equalFunc_bools ?_
  refine w_equalFuncG (r := fun x y => decide (x = y)) (lob_llb (st.fz 5 rfl)) (lob_llb (st.fz 6 rfl)) (by omega) (fun x hx y hy p q h' x' hp hq => ?_) fun b h17 hb x17 => ?_
  · refine callF_func (callT_gen fun K hK => S_salvorlaw05_FormulaNorm_1 (a0 := p) (a1 := q) K ?_)
    unfold F_salvorlaw05_FormulaNorm_1
    refine call_of (equal_bools hp hq (by rw [hrow x hx]; decide)) ?_
    rintro r h2 ⟨e, rfl⟩
    exact hK _ _ ⟨e, Ext.refl' _ _⟩
  have eb : b = true := hb.2 ⟨rfl, fun i _ _ => by simp⟩
  subst eb
  have st := st.ext x17
  rw [Bool.not_true, brB_false]
  rw [ld_sl (i := 1) (st.fblk 2 rfl) rfl]
  have lN := rsg_len (lgo_at (st.fz 1 rfl))
  obtain ⟨G, hG⟩ : ∃ G : List Asn, G = [llo M r0, lgo (normL M) r3, cF b4 8 r3] := ⟨_, rfl⟩
  have st : Hs [([], h)] G [cF b1 8 r0] h17 := by
    refine Hs.gsub (fun A hA => ?_) st
    rw [hG] at hA
    simp only [List.mem_cons, List.not_mem_nil, or_false] at hA
    rcases hA with rfl | rfl | rfl <;> simp
  have g0 : G[0]? = some (llo M r0) := by rw [hG]; rfl
  have g1 : G[1]? = some (lgo (normL M) r3) := by rw [hG]; rfl
  have g2 : G[2]? = some (cF b4 8 r3) := by rw [hG]; rfl
  clear hG
  refine lfp_invh (I := fun μ σ h' => ∃ i : Nat, σ = ((i : Int), false, ()) ∧ i ≤ (normL M).length ∧ Hs [([], h)] G [cF b1 8 r0] h' ∧ μ = (normL M).length - i) ⟨_, 0, rfl, by omega, st, rfl⟩ ?_
  clear st
  rintro μ σ h18 X ⟨i, rfl, hi, st, em⟩ hX
  simp only
  by_cases hlt : i < (normL M).length
  · rw [decide_eq_true (show (i : Int) < (r3.len : Int) by omega), brB_true, inc_i (show i < 4611686018427387904 by omega)]
    have hmem := List.getElem_mem hlt
    refine rdG (lgo_at (st.fz 1 g1)) hlt fun p hp => ?_
    have st0 := st
    have k1 := st.own 0 rfl
    have st := Hs.start h18 [li (normL M)[i] p, llo M r0, lgo (normL M) r3, cF b4 8 r3, cF b1 8 r0] (by
      intro B hB
      simp only [List.mem_cons, List.not_mem_nil, or_false] at hB
      rcases hB with rfl | rfl | rfl | rfl | rfl
      · exact hp
      · exact st0.fz 0 g0
      · exact st0.fz 1 g1
      · exact st0.fz 2 g2
      · exact k1)
    refine st.nw fun b21 h19 st => ?_
    simp only [List.nil_append, List.cons_append] at st
    refine st.st1 0 0 rfl (by simp) fun h20 st => ?_
    simp only [List.set_cons_zero] at st
    have hnf := n3s _ hmem
    obtain ⟨d, hd, had, hde⟩ := (n2s _).1 hmem
    rw [st.lds 0 0 rfl rfl]
    refine call_of (normal_is_c (st.fz 0 rfl)) ?_
    rintro r h21 ⟨er, x21⟩
    have er : r = true := er.trans (by rw [hnf.1, decide_eq_true hnf.2.symm]; rfl)
    subst er
    have st := st.ext x21
    rw [Bool.not_true, brB_false, st.lds 0 0 rfl rfl]
    refine call_of (always_c (st.fz 0 rfl)) ?_
    rintro r h22 ⟨er, x22⟩
    have er : r = false := er.trans (by rw [hnf.1, ← hde, alw_nrm (hr d hd), had]; rfl)
    subst er
    have st := st.ext x22
    rw [brB_false]
    have tail : ∀ h', Hs [([], h18)] [li (normL M)[i] p, llo M r0, lgo (normL M) r3, cF b4 8 r3, cF b1 8 r0] [cl b21 ty_clauses_Clause [.slice p.a p.len p.cap]] h' →
        (ldT .sl (⟨b1, 1, none⟩ : Addr) fun x31 => callT Tryz.prog fn_slices_ContainsFunc_clauses_Clause_clauses_Clause #[(.slice x31.a x31.len x31.cap), (.func (.func fn_salvorlaw05_FormulaNorm_2) #[] #[(.pointer (some (⟨b21, 0, none⟩ : Addr)))])] .bool fun r32 =>
          brB (!r32) (K false) (X (((i + 1 : Nat) : Int), false, ()))) h' := by
      intro h' st
      rw [ld_sl (i := 1) (st.fblk 4 rfl) rfl]
      refine call_of (containsFunc_clauses (p := fun y => sameP y (normL M)[i]) (llo_at (st.fz 1 rfl)) (by omega) fun y hy q h2 x2 hq => ?_) ?_
      · exact callF_func (norm2_c ((st.blk 0 rfl).ext x2 (by simp)) ((st.fz 0 rfl).ext x2) hq)
      rintro r h23 ⟨er, x23⟩
      have er : r = true := er.trans (List.any_eq_true.2 ⟨d, hd, by
        unfold sameP
        rw [hr d hd, hnf.1, hnf.2, hde]; simp⟩)
      subst er
      have st := st.ext x23
      rw [Bool.not_true, brB_false]
      exact hX _ _ _ ⟨i + 1, rfl, by omega, st0.ext (st.frame (by simp)), rfl⟩ (by omega)
    by_cases h0 : i = 0
    · rw [decide_eq_false (show ¬ (i : Int) > 0 by omega), brB_false]
      exact tail _ st
    · rw [decide_eq_true (show (i : Int) > 0 by omega), brB_true, ld_sl (i := 1) (st.fblk 3 rfl) rfl, dec_i (show i < 4611686018427387904 by omega) (by omega)]
      refine rdG (lgo_at (st.fz 2 rfl)) (show i - 1 < (normL M).length by omega) fun q hq => ?_
      rw [st.lds 0 0 rfl rfl]
      refine call_of (compare_c hq (st.fz 0 rfl)) ?_
      rintro r h23 ⟨er, x23⟩
      have hlt3 : compareP ((normL M)[i - 1]'(by omega)) (normL M)[i] < 0 := List.pairwise_iff_getElem.1 n1s (i - 1) i (by omega) hlt (by omega)
      have er : r = compareP ((normL M)[i - 1]'(by omega)) (normL M)[i] := er
      rw [decide_eq_false (show ¬ r ≥ 0 from by rw [er]; exact Int.not_le.2 hlt3), brB_false]
      exact tail _ (st.ext x23)
  rw [decide_eq_false (show ¬ (i : Int) < (r3.len : Int) by omega), brB_false]
  clear hX X em hlt hi
  rw [st.lds 0 1 rfl rfl]
  refine jn_mid (fun σ h' => ∃ n : Nat, σ = ((n : Int), ()) ∧ n ≤ M.length ∧ Hs [([], h)] G [cF b1 8 r0] h') ?_ ?_
  rotate_left
  · intro J hJ
    by_cases hz : M.length = 0
    · rw [decide_eq_false (show ¬ (r0.len : Int) > 0 by omega), brB_false]
      exact hJ _ _ ⟨0, rfl, by omega, st⟩
    · rw [decide_eq_true (show (r0.len : Int) > 0 by omega), brB_true, st.lds 0 1 rfl rfl]
      refine ⟨by show (r0.len : Int) ≠ 0; omega, ?_⟩
      have ew : Int.tmod (IntKind.wrap .i64 (w : Int)) (r0.len : Int) = ((w % M.length : Nat) : Int) := by
        rw [wrap_i64 (by omega) (by omega), Int.tmod_eq_emod_of_nonneg (by omega), lM]; exact (Int.natCast_emod _ _).symm
      rw [ew]
      exact hJ _ _ ⟨w % M.length, rfl, Nat.le_of_lt (Nat.mod_lt _ (by omega)), st⟩
  clear st
  rintro σ h18 ⟨n, rfl, hn, st⟩
  simp only
  have c0 := rsgcap (llo_at (st.fz 0 g0))
  rw [st.lds 0 1 rfl rfl]
  refine ⟨Int.natCast_nonneg _, Int.ofNat_le.2 (show n ≤ r0.len by omega), ?_⟩
  rw [Int.toNat_natCast]
  show ldT .sl _ _ _
  rw [st.lds 0 1 rfl rfl]
  refine ⟨Int.natCast_nonneg _, Int.ofNat_le.2 (show n ≤ r0.cap by omega), ?_⟩
  rw [Int.toNat_natCast]
  show ldT .sl _ _ _
  rw [st.lds 0 1 rfl rfl]
  refine ⟨Int.natCast_nonneg _, Int.ofNat_le.2 (show n ≤ r0.cap by omega), ?_⟩
  rw [Int.toNat_natCast]
  refine st.nw fun b44 h19 st => ?_
  simp only [List.nil_append, List.cons_append] at st
  have kb := st.blk 1 rfl
  obtain ⟨S, hs, hz, hf⟩ := st
  obtain ⟨S0, p0, d0⟩ := hz _ (List.mem_of_getElem? g0)
  refine call_of (concat3_c (S0 := S0) (rsg_imp (fun c p S h q => osl_rsl q) (osg_rsg p0)) hn (by omega) kb) ?_
  rintro r45 h20 ⟨hT, x20⟩
  have st := (gain_of hs hz hf d0 x20 hT).drop 1 rfl
  simp only [List.eraseIdx_cons_zero, List.eraseIdx_cons_succ] at st
  clear hT
  have hmem : ∀ c, c ∈ M.drop n ++ (M.take n ++ M.take n) ↔ c ∈ M := fun c => by
    constructor
    · intro q
      rcases List.mem_append.1 q with q | q
      · exact List.mem_of_mem_drop q
      · rcases List.mem_append.1 q with q | q <;> exact List.mem_of_mem_take q
    · intro q
      rw [← List.take_append_drop n M] at q
      rcases List.mem_append.1 q with q | q
      · exact List.mem_append_right _ (List.mem_append_left _ q)
      · exact List.mem_append_left _ q
  have hlT : (M.drop n ++ (M.take n ++ M.take n)).length ≤ 100 := by simp; omega
  have hGT : GoodF 8 (M.drop n ++ (M.take n ++ M.take n)) := ⟨by rfl, by omega, fun c hc => hgood c ((hmem c).1 hc)⟩
  have eT := normL_congr hr hmem
  generalize M.drop n ++ (M.take n ++ M.take n) = T at *
  have gl : G.length = 3 ∨ True := .inr trivial
  have gT : (G ++ [lli T r45])[G.length]? = some (lli T r45) := by simp
  have g1' : (G ++ [lli T r45])[1]? = some (lgo (normL M) r3) := by rw [List.getElem?_append_left (List.getElem?_eq_some_iff.1 g1).1]; exact g1
  have g2' : (G ++ [lli T r45])[2]? = some (cF b4 8 r3) := by rw [List.getElem?_append_left (List.getElem?_eq_some_iff.1 g2).1]; exact g2
  refine st.st1 0 1 rfl (by simp) fun h21 st => ?_
  simp only [List.set_cons_zero, List.set_cons_succ] at st
  refine ldF (s := r45) (st.blk 0 rfl) ?_
  refine call_of (fnorm_c (n := 8) (st.fz _ gT)) ?_
  rintro _ h22 ⟨r47, rfl, n22, x22⟩
  rw [normF_good hGT, eT] at n22 ⊢
  have st := st.new x22 n22
  refine st.nw fun b48 h23 st => ?_
  simp only [addr_add, Nat.zero_add, List.nil_append, List.cons_append] at st ⊢
  refine st.st1 2 0 rfl (by simp) fun h24 st => ?_
  refine st.st1 2 1 rfl (by simp) fun h25 st => ?_
  simp only [List.set_cons_zero, List.set_cons_succ] at st
  show (brB true _ _) h25
  rw [brB_true]
  refine ldF (s := r47) (st.blk 2 rfl) ?_
  refine ldF (s := r3) (st.fblk 2 g2') ?_
  refine call_of (Same_c (n := 8) (n2 := 8) (cs := normL M) (ds := normL M) (lgo_at (st.own 1 rfl)) (lgo_at (st.fz 1 g1')) (by omega) hcl) ?_
  rintro r h26 ⟨er, x26⟩
  have er : r = true := er.trans (by simp)
  subst er
  have st := st.ext x26
  rw [brB_true]
  refine call_of fawake_c ?_
  rintro _ h27 ⟨rfl, x27⟩
  exact hK _ _ ⟨rfl, (st.ext x27).frame (by simp)⟩

end Go.Proofs.S
