/-
  What a formula that is made is.
-/
import Derived.Test.YtfadkgkkbbcekaaFoL
set_option linter.unusedVariables false
set_option linter.unusedSimpArgs false
namespace Go.Proofs.S
open Go Go.Sx Go.Proofs Go.Cl

variable {h : Heap} {c d : List Int} {s s2 : Sl} {fr : Fr} {G As : List Asn} {m : List Bool} {sm : Sl} {k k2 : List Bool}

theorem litOf_rt (n : Int) : rt (litOf n) = true ∧ varL (litOf n) ≤ 8 := by
  have h1 : rt (litOf n) = true := by rw [rt_iff]; unfold litOf; split <;> omega
  refine ⟨h1, ?_⟩
  unfold varL
  rw [if_pos h1]
  unfold litOf
  split <;> split <;> omega
theorem madeP_good (l : List Int) : rightC (madeP l) = true ∧ ∀ x ∈ madeP l, beyP 8 x = false := by
  have hx : ∀ x ∈ madeP l, rt x = true ∧ varL x ≤ 8 := fun x hx => by
    obtain ⟨n, _, rfl⟩ := List.mem_map.1 hx
    exact litOf_rt n
  constructor
  · unfold rightC
    rw [decide_eq_true (show (madeP l).length ≤ 4096 by unfold madeP; simp; omega), Bool.true_and, List.all_eq_true]
    exact fun x q => (hx x q).1
  · intro x q
    obtain ⟨a, b⟩ := hx x q
    unfold beyP
    rw [a, decide_eq_false (by omega)]; rfl
theorem madeF_good (cs : List (List Int)) : ∀ c ∈ madeF cs, rightC c = true ∧ ∀ x ∈ c, beyP 8 x = false := fun c hc => by
  obtain ⟨l, _, rfl⟩ := List.mem_map.1 hc
  exact madeP_good l
theorem good8 (cs : List (List Int)) : GoodF 8 (madeF cs) := ⟨by rfl, by have := madeF_len cs; omega, madeF_good cs⟩
theorem bey_big {x : Int} (h : 9 ≤ x ∨ x ≤ -9) : beyP 8 x = true := by
  unfold beyP varL
  cases hr : rt x with
  | false => rfl
  | true =>
    rw [if_pos rfl, Bool.not_true, Bool.false_or]
    refine decide_eq_true ?_
    split <;> omega

theorem failsGo_neg : ∀ {cs : List (List Int)} {i : Nat}, failsGo m i cs < 0 ↔ ∀ c ∈ cs, c.any (trueIn m) = true
  | [], i => by simp [failsGo]
  | c :: cs, i => by
    unfold failsGo
    by_cases hc : c.any (trueIn m) = true
    · rw [if_pos hc, failsGo_neg]
      constructor
      · intro q d hd
        rcases List.mem_cons.1 hd with rfl | hd
        · exact hc
        · exact q d hd
      · exact fun q d hd => q d (List.mem_cons_of_mem _ hd)
    · rw [if_neg hc]
      constructor
      · intro q; omega
      · intro q; exact absurd (q c (by simp)) hc
theorem holdsF_good {n : Nat} (hr : rightC c = true) (hb : ∀ x ∈ c, beyP n x = false) (hm : m.length = n) : holdsF c m = c.any (trueIn m) := by
  unfold holdsF
  have : c.any (beyP m.length) = false := by rw [List.any_eq_false]; intro x hx; rw [hm, hb x hx]; decide
  rw [hr, this]; rfl
theorem mem_models {v : Nat} {cs : List (List Int)} : m ∈ modelsF v cs ↔ m.length = v ∧ ∀ c ∈ cs, c.any (trueIn m) = true := by
  unfold modelsF
  rw [List.mem_filter, Cr.mem_allB, decide_eq_true_eq, failsGo_neg]
theorem models_snoc (v : Nat) (cs : List (List Int)) (mo : List Int) : modelsF v (cs ++ [mo]) = (modelsF v cs).filter fun m => mo.any (trueIn m) := by
  unfold modelsF
  rw [List.filter_filter]
  congr 1
  funext m
  rw [Bool.eq_iff_iff, Bool.and_eq_true, decide_eq_true_eq, decide_eq_true_eq, failsGo_neg, failsGo_neg]
  constructor
  · exact fun q => ⟨q mo (by simp), fun c hc => q c (by simp [hc])⟩
  · rintro ⟨q1, q2⟩ c hc
    rcases List.mem_append.1 hc with hc | hc
    · exact q2 c hc
    · rw [List.mem_singleton.1 hc]; exact q1
theorem varL_neg {x : Int} (h : rt x = true) : varL (-x) = varL x := by
  have h0 := rt_iff.1 h
  unfold varL
  rw [if_pos h, if_pos (rt_neg h)]
  split <;> split <;> omega
theorem trueIn_neg {x : Int} (h : rt x = true) : trueIn m (-x) = !trueIn m x := by
  have h0 := rt_iff.1 h
  unfold trueIn
  rw [varL_neg h]
  have : decide (-x < 0) = !decide (x < 0) := by
    by_cases q : x < 0
    · rw [decide_eq_true q, decide_eq_false (by omega)]; rfl
    · rw [decide_eq_false q, decide_eq_true (by omega)]; rfl
  rw [this]
  cases (m[(varL x - 1).toNat]?.getD false) <;> cases decide (x < 0) <;> rfl

end Go.Proofs.S

set_option linter.unusedVariables false
set_option linter.unusedSimpArgs false
namespace Go.Proofs.S
open Go Go.Sx Go.Proofs Go.Cl

variable {h : Heap} {c d : List Int} {s s2 : Sl} {fr : Fr} {G As : List Asn} {m : List Bool} {sm : Sl} {k k2 : List Bool}

theorem wlen (c : List Int) (l : Int) : (withoutP c l).1.length ≤ c.length := by
  unfold withoutP
  split
  · split
    · exact Nat.le_trans (List.length_filter_le _ _) (nrm_length c)
    · simp
  · simp
theorem mem_res {a b : List Int} {x : Int} (ra : rightC a = true) (rb : rightC b = true) (rx : rt x = true) (hl : a.length + b.length ≤ 4096) (ha : x ∈ a) (hb : -x ∈ b) :
    resolveP a b x = (nrm ((withoutP a x).1 ++ (withoutP b (-x)).1), 0) ∧ rightC (nrm ((withoutP a x).1 ++ (withoutP b (-x)).1)) = true ∧
      ∀ y, y ∈ nrm ((withoutP a x).1 ++ (withoutP b (-x)).1) ↔ (y ∈ a ∧ y ≠ x) ∨ (y ∈ b ∧ y ≠ -x) := by
  have h1 := right_without ra x
  have h2 := right_without rb (-x)
  have l1 := wlen a x
  have l2 := wlen b (-x)
  have h3 := right_app h1 h2 (by omega)
  refine ⟨?_, right_nrm h3, fun y => ?_⟩
  · unfold resolveP
    rw [ra, rb, rx, show a.contains x = true by simpa using ha, show b.contains (-x) = true by simpa using hb]
    simp only [Bool.and_self, if_true]
    exact union_eq h1 h2 (by omega)
  · rw [mem_nrm h3, List.mem_append, mem_without ra rx, mem_without rb (rt_neg rx)]
theorem res_holds {a b : List Int} {x : Int} (ra : rightC a = true) (rb : rightC b = true) (ga : ∀ z ∈ a, beyP 8 z = false) (gb : ∀ z ∈ b, beyP 8 z = false) (rx : rt x = true) (hl : a.length + b.length ≤ 4096) (ha : x ∈ a) (hb : -x ∈ b) :
    (resolveP a b x).2 = 0 ∧ ∀ m : List Bool, m.length = 8 → a.any (trueIn m) = true → b.any (trueIn m) = true → holdsF (resolveP a b x).1 m = true := by
  obtain ⟨e, hr, hm⟩ := mem_res ra rb rx hl ha hb
  rw [e]
  refine ⟨rfl, fun m hm8 h1 h2 => ?_⟩
  simp only
  rw [holdsF_good hr (fun z hz => ((hm z).1 hz).elim (fun q => ga z q.1) (fun q => gb z q.1)) hm8]
  rw [List.any_eq_true] at h1 h2 ⊢
  obtain ⟨y, hy, ty⟩ := h1
  obtain ⟨z, hz, tz⟩ := h2
  by_cases q : y = x
  · subst q
    refine ⟨z, (hm z).2 (.inr ⟨hz, fun e => ?_⟩), tz⟩
    rw [e, trueIn_neg rx, ty] at tz; cases tz
  · exact ⟨y, (hm y).2 (.inl ⟨hy, q⟩), ty⟩

abbrev llb (xs : List (List Bool)) (s : Sl) : Asn := rsg (fun c p => lb c p) xs s
theorem lob_llb {xs : List (List Bool)} (hA : At h (osg (fun c p => ob c p) ty_sl_bool xs s)) : At h (llb xs s) := rsgA_mono (fun c p S h q => osl_rsl q) (At.rsg hA)

theorem snoc_at {x : List Int} {p : Sl} {ps : List Sl} {cs : List (List Int)} (h1 : At h (osl ty_clauses_Clause Ty.sl.enc (ps ++ [p]) s)) (h2 : At h (inn (fun c p => lo c p) cs ps)) (h3 : At h (lo x p)) : At h (lli (cs ++ [x]) s) := by
  obtain ⟨S1, p1⟩ := h1
  obtain ⟨S2, p2⟩ := h2
  obtain ⟨S3, p3⟩ := h3
  have p4 := Inner.snoc p2 p3
  exact ⟨S1 ++ (S2 ++ S3), ps ++ [p], S1, S2 ++ S3, rfl, osl_rsl p1, finner_mono (fun c p S h q => osl_rsl q) p4⟩

end Go.Proofs.S

set_option linter.unusedVariables false
set_option linter.unusedSimpArgs false
namespace Go.Proofs.S
open Go Go.Sx Go.Proofs Go.Cl

variable {h : Heap} {c d : List Int} {s s2 : Sl} {fr : Fr} {G As : List Asn} {m : List Bool} {sm : Sl} {k k2 : List Bool}

theorem any_nrm (hr : rightC c = true) (p : Int → Bool) : (nrm c).any p = c.any p := by
  rw [Bool.eq_iff_iff, List.any_eq_true, List.any_eq_true]
  exact ⟨fun ⟨x, a, b⟩ => ⟨x, (mem_nrm hr).1 a, b⟩, fun ⟨x, a, b⟩ => ⟨x, (mem_nrm hr).2 a, b⟩⟩
theorem alw_nrm (hr : rightC c = true) : alwaysC (nrm c) = alwaysC c := by
  rw [Bool.eq_iff_iff, always_iff, always_iff]
  exact ⟨fun ⟨x, a, b⟩ => ⟨x, (mem_nrm hr).1 a, (mem_nrm hr).1 b⟩, fun ⟨x, a, b⟩ => ⟨x, (mem_nrm hr).2 a, (mem_nrm hr).2 b⟩⟩
theorem alw_holds (hr : rightC c = true) (ha : alwaysC c = true) (m : List Bool) : c.any (trueIn m) = true := by
  obtain ⟨x, h1, h2⟩ := always_iff.1 ha
  rw [List.any_eq_true]
  cases ht : trueIn m x with
  | true => exact ⟨x, h1, ht⟩
  | false => exact ⟨-x, h2, by rw [trueIn_neg (rightC_rt hr x h1), ht]; rfl⟩
theorem normL_spec {M : List (List Int)} (hM : ∀ c ∈ M, rightC c = true) : StrictC compareP (normL M) ∧ (∀ c, c ∈ normL M ↔ ∃ d ∈ M, alwaysC d = false ∧ nrm d = c) ∧ ∀ c ∈ normL M, Nf c := by
  have hN : ∀ x ∈ (M.filter fun c => !alwaysC c).map nrm, Nf x := fun x hx => by
    obtain ⟨y, hy, rfl⟩ := List.mem_map.1 hx
    exact nf_nrm (hM y (List.mem_filter.1 hy).1)
  obtain ⟨a, b⟩ := sortC_spec totC hN
  refine ⟨a, fun c => ?_, fun c hc => hN c ((b c).1 hc)⟩
  show c ∈ sortC compareP _ ↔ _
  rw [b, List.mem_map]
  constructor
  · rintro ⟨d, hd, e⟩
    obtain ⟨q1, q2⟩ := List.mem_filter.1 hd
    exact ⟨d, q1, by simpa using q2, e⟩
  · rintro ⟨d, h1, h2, e⟩
    exact ⟨d, List.mem_filter.2 ⟨h1, by rw [h2]; rfl⟩, e⟩
theorem normL_congr {M N : List (List Int)} (hM : ∀ c ∈ M, rightC c = true) (hm : ∀ c, c ∈ N ↔ c ∈ M) : normL N = normL M := by
  obtain ⟨a1, a2, a3⟩ := normL_spec hM
  obtain ⟨b1, b2, b3⟩ := normL_spec fun c hc => hM c ((hm c).1 hc)
  refine StrictC.unique totC b3 a3 b1 a1 fun c => ?_
  rw [a2, b2]
  exact ⟨fun ⟨d, q, r⟩ => ⟨d, (hm d).1 q, r⟩, fun ⟨d, q, r⟩ => ⟨d, (hm d).2 q, r⟩⟩
theorem normL_idem {M : List (List Int)} (hM : ∀ c ∈ M, rightC c = true) : normL (normL M) = normL M := by
  obtain ⟨a1, a2, a3⟩ := normL_spec hM
  have hr : ∀ c ∈ normL M, rightC c = true := fun c hc => (a3 c hc).1
  obtain ⟨b1, b2, b3⟩ := normL_spec hr
  refine StrictC.unique totC b3 a3 b1 a1 fun c => ?_
  rw [b2]
  constructor
  · rintro ⟨d, hd, _, e⟩
    rw [← e, (a3 d hd).2]; exact hd
  · intro hc
    refine ⟨c, hc, ?_, (a3 c hc).2⟩
    obtain ⟨d, h1, h2, e⟩ := (a2 c).1 hc
    rw [← e, alw_nrm (hM d h1), h2]
theorem normL_len {M : List (List Int)} (hM : M.length ≤ 100) : (normL M).length ≤ 100 := by
  have key : ∀ (L N : List (List Int)), (L.foldl (fun N x => insC compareP x N) N).length ≤ N.length + L.length := by
    intro L
    induction L with
    | nil => intro N; simp
    | cons x L ih =>
      intro N
      have h1 := ih (insC compareP x N)
      have h2 : ∀ L : List (List Int), (insC compareP x L).length ≤ L.length + 1 := by
        intro L
        induction L with
        | nil => simp [insC]
        | cons y L ih =>
          unfold insC
          split
          · simp
          · split
            · simp
            · simp only [List.length_cons]; omega
      have h3 := h2 N
      simp only [List.foldl_cons, List.length_cons]; omega
  have h1 := key ((M.filter fun c => !alwaysC c).map nrm) []
  have h2 : ((M.filter fun c => !alwaysC c).map nrm).length ≤ M.length := by rw [List.length_map]; exact List.length_filter_le _ _
  show (List.foldl (fun N x => insC compareP x N) [] ((M.filter fun c => !alwaysC c).map nrm)).length ≤ 100
  simp only [List.length_nil] at h1
  omega
theorem normL_models {v : Nat} {M : List (List Int)} (hM : ∀ c ∈ M, rightC c = true) : modelsF v (normL M) = modelsF v M := by
  obtain ⟨a1, a2, a3⟩ := normL_spec hM
  unfold modelsF
  congr 1
  funext m
  rw [Bool.eq_iff_iff, decide_eq_true_eq, decide_eq_true_eq, failsGo_neg, failsGo_neg]
  constructor
  · intro q c hc
    cases ha : alwaysC c with
    | true => exact alw_holds (hM c hc) ha m
    | false =>
      have := q (nrm c) ((a2 _).2 ⟨c, hc, ha, rfl⟩)
      rwa [any_nrm (hM c hc)] at this
  · intro q c hc
    obtain ⟨d, h1, _, rfl⟩ := (a2 c).1 hc
    rw [any_nrm (hM d h1)]; exact q d h1
theorem normL_good {M : List (List Int)} (hl : M.length ≤ 100) (hM : ∀ c ∈ M, rightC c = true ∧ ∀ x ∈ c, beyP 8 x = false) : GoodF 8 (normL M) := by
  obtain ⟨a1, a2, a3⟩ := normL_spec fun c hc => (hM c hc).1
  refine ⟨by rfl, by have := normL_len hl; omega, fun c hc => ⟨(a3 c hc).1, fun x hx => ?_⟩⟩
  obtain ⟨d, h1, _, rfl⟩ := (a2 c).1 hc
  exact (hM d h1).2 x ((mem_nrm (hM d h1).1).1 hx)
theorem normF_good {n : Int} {M : List (List Int)} (hg : GoodF n M) : normF n M = ((n, normL M), 0) := by
  unfold normF; rw [if_neg (by simp [check_good.2 hg])]

theorem Hs.gsub {G' : List Asn} (hs : ∀ A ∈ G', A ∈ G) (st : Hs fr G As h) : Hs fr G' As h :=
  let ⟨S, a, b, c⟩ := st; ⟨S, a, fun A hA => b A (hs A hA), c⟩

theorem equalFunc_bools {fv : Value} {K : Bool → HP} (hW : W_equalFunc Try.prog .sl .sl s s2 fv K h) : callT Try.prog fn_slices_EqualFunc_bool_bool_bool_bool #[.slice s.a s.len s.cap, .slice s2.a s2.len s2.cap, fv] .bool K h :=
  S_slices_EqualFunc_bool_bool_bool_bool (a0 := s) (a1 := s2) (a2 := fv) K hW
theorem Inner.makeP {β : Type} {I : β → Sl → Asn} {Q : Nat → Prop} : ∀ {xs : List β} {ps : List Sl} {h : Heap}, ps.length = xs.length → (∀ i (h1 : i < xs.length) (h2 : i < ps.length), ∃ S, (I xs[i] ps[i]).P S h ∧ ∀ b ∈ S, Q b) → ∃ S, Inner I xs ps S h ∧ ∀ b ∈ S, Q b
  | [], [], _, _, _ => ⟨[], rfl, by simp⟩
  | x :: xs, p :: ps, h, hl, hi => by
    obtain ⟨S1, hp, g1⟩ := hi 0 (by simp) (by simp)
    obtain ⟨S2, hs, g2⟩ := Inner.makeP (Q := Q) (xs := xs) (ps := ps) (h := h) (by simpa using hl) fun i h1 h2 => hi (i + 1) (Nat.succ_lt_succ h1) (Nat.succ_lt_succ h2)
    exact ⟨S1 ++ S2, ⟨S1, S2, rfl, hp, hs⟩, fun b hb => (List.mem_append.1 hb).elim (g1 b) (g2 b)⟩
  | [], _ :: _, _, hl, _ => by simp at hl
  | _ :: _, [], _, hl, _ => by simp at hl
theorem gain_of {S S0 : List Nat} {B : Asn} {h' : Heap} (hs : Sep As S h) (hz : FzOk G S h) (hf : FrOk fr S h) (d0 : ∀ b ∈ S0, b ∉ S) (x : Ext [] h h') (hB : ∃ S', B.P S' h' ∧ ∀ b ∈ S', b ∈ S0 ∨ h.size ≤ b) : Hs fr (G ++ [B]) As h' := by
  refine ⟨S, hs.keep x.1 fun b hb => x.2 b (hs.cel b hb).lt (by simp), fun C hC => ?_, hf.ext x (by simp)⟩
  rcases List.mem_append.1 hC with hC | hC
  · exact hz.ext x (by simp) C hC
  · rw [List.mem_singleton.1 hC]
    obtain ⟨S', p, q⟩ := hB
    exact ⟨S', p, fun b hb hin => (q b hb).elim (fun k => d0 b k hin) fun k => by have := (hs.cel b hin).lt; omega⟩

end Go.Proofs.S

set_option linter.unusedVariables false
set_option linter.unusedSimpArgs false
namespace Go.Proofs.S
open Go Go.Sx Go.Proofs Go.Cl

variable {h : Heap} {c d : List Int} {s s2 : Sl} {fr : Fr} {G As : List Asn} {m : List Bool} {sm : Sl} {k k2 : List Bool}

def bitI (b : Bool) : Int := if b then 1 else 0
abbrev bitsL (m : List Bool) : List Int := m.map bitI

theorem bits_c (hA : At h (lb m s)) (hl : m.length ≤ 1048576) : callT Try.prog fn_salvorlaw05_Bits #[.slice s.a s.len s.cap] .sl (fun s' h' => New h.size h' (io (bitsL m) s') ∧ Ext [] h h') h := by
  refine callT_gen fun K hK => S_salvorlaw05_Bits (a0 := s) K ?_
  unfold F_salvorlaw05_Bits
  have l1 := rsl_len hA
  have st := (Hs.start h [lb m s] (by simp [hA])).nil ty_int i64.enc none
  refine lfp_invh (I := fun μ σ h' => ∃ (i : Nat) (s' : Sl), σ = ((i : Int), s', ()) ∧ i ≤ m.length ∧ Hs [([], h)] [lb m s] [io (bitsL (m.take i)) s'] h' ∧ μ = m.length - i) ⟨_, 0, ⟨none, 0, 0⟩, rfl, by omega, st, rfl⟩ ?_
  clear st
  rintro μ σ h2 X ⟨i, s', rfl, hi, st, em⟩ hX
  simp only
  by_cases hlt : i < m.length
  · rw [show decide ((i : Int) < (s.len : Int)) = true by rw [l1]; exact dlt_t hlt, brB_true, inc_i (show i < 4611686018427387904 by omega)]
    refine rdE (τ := .bool) (st.fz 0 rfl) hlt ?_
    refine jn_mid (fun σ h' => σ = (bitI m[i], ()) ∧ h' = h2) ?_ ?_
    · rintro σ h3 ⟨rfl, rfl⟩
      refine st.nw fun b4 h4 st => ?_
      simp only [List.cons_append, List.nil_append] at st
      refine Hs.apd (enc := i64.enc) (v := bitI m[i]) st 0 1 rfl rfl (by decide) rfl (by simp; omega) (by decide) rfl fun s5 h5 st => ?_
      refine hX _ _ _ ⟨i + 1, s5, rfl, by omega, ?_, rfl⟩ (by omega)
      have e : bitsL (m.take (i + 1)) = bitsL (m.take i) ++ [bitI m[i]] := by show List.map bitI _ = _; rw [take_succ_getE hlt, List.map_append]; rfl
      rw [e]
      exact st.drop 1 rfl
    · intro J hJ
      cases hb : m[i] with
      | true => rw [brB_true]; exact hJ _ _ ⟨by rw [hb]; rfl, rfl⟩
      | false => rw [brB_false]; exact hJ _ _ ⟨by rw [hb]; rfl, rfl⟩
  · rw [show decide ((i : Int) < (s.len : Int)) = false by rw [l1]; exact dlt_f hlt, brB_false]
    rw [List.take_of_length_le (by omega)] at st
    exact hK _ _ ⟨st.res (by simp) 0 rfl, st.frame (by simp)⟩

theorem rvar_c (x : Int) : callT Try.prog fn_salvorref01_Var #[.int .i64 x] (.int .i64) (fun r h' => r = varL x ∧ h' = h) h := by
  refine callT_gen fun K hK => S_salvorref01_Var (a0 := x) K ?_
  unfold F_salvorref01_Var
  refine call_of (r1_right_c x) ?_
  rintro _ hq ⟨rfl, rfl⟩
  unfold varL at hK
  cases hr : rt x with
  | false => rw [hr] at hK; rw [Bool.not_false, brB_true]; exact hK _ _ ⟨rfl, rfl⟩
  | true =>
    rw [hr, if_pos rfl] at hK
    rw [Bool.not_true, brB_false]
    by_cases q : x < 0
    · rw [if_pos q] at hK
      rw [decide_eq_true q, brB_true, wneg hr]; exact hK _ _ ⟨rfl, rfl⟩
    · rw [if_neg q] at hK
      rw [decide_eq_false q, brB_false]; exact hK _ _ ⟨rfl, rfl⟩

theorem varsP_nat' {n : Nat} (hn : n ≤ 1048576) : varsP n = true := by
  unfold varsP
  rw [decide_eq_true (by omega), decide_eq_true (by omega)]; rfl
theorem bey_iff {n x : Int} : beyP n x = true ↔ varL x < 1 ∨ varL x > n := by
  unfold beyP
  cases hr : rt x with
  | false => simp [varL, hr]
  | true =>
    have := varL_pos hr
    simp only [Bool.not_true, Bool.false_or, decide_eq_true_eq]
    omega

theorem rmodel_c {n : Int} (hA : At h (li c s)) (hl : c.length ≤ 1048576) :
    callT Try.prog fn_salvorref05_Model #[.int .i64 n, .slice s.a s.len s.cap] (.tup (.cons .sl (.cons (.int .i64) .nil)))
      (fun r h' => ∃ s', r = (s', (modelF n c).2, ()) ∧ New h.size h' (io (bitsL (modelF n c).1) s') ∧ Ext [] h h') h := by
  refine callT_gen fun K hK => S_salvorref05_Model (a0 := n) (a1 := s) K ?_
  unfold F_salvorref05_Model
  have l1 := rsl_len hA
  have c1 := rsl_cap hA
  unfold modelF at hK
  by_cases h0 : n < 0
  · have hv : varsP n = false := by unfold varsP; rw [decide_eq_false (by omega)]; rfl
    rw [hv] at hK
    rw [decide_eq_true h0, brB_true]
    exact hK _ _ ⟨⟨none, 0, 0⟩, rfl, osl_nil _ _, Ext.refl' _ _⟩
  rw [decide_eq_false h0, brB_false]
  by_cases h1 : n > 1048576
  · have hv : varsP n = false := by unfold varsP; rw [decide_eq_false (show ¬ n ≤ 1048576 by omega), Bool.and_false]
    rw [hv] at hK
    rw [decide_eq_true h1, brB_true]
    exact hK _ _ ⟨⟨none, 0, 0⟩, rfl, osl_nil _ _, Ext.refl' _ _⟩
  rw [decide_eq_false h1, brB_false]
  obtain ⟨n, rfl⟩ := Int.eq_ofNat_of_zero_le (show 0 ≤ n by omega)
  rw [varsP_nat' (show n ≤ 1048576 by omega), if_pos rfl, Int.toNat_natCast] at hK
  have st := Hs.start h [li c s] (by simp [hA])
  refine Hs.mks1 (n := n) (τ := i64) (z := (0 : Int)) st (by omega) (by decide) fun s0 h2 st => ?_
  simp only [List.nil_append] at st
  have eb : List.replicate n (0 : Int) = bitsL (List.replicate n false) := by simp [bitsL, bitI]
  rw [eb] at st
  refine lfp_invh (I := fun μ σ h' => ∃ (i : Nat) (out set : List Bool), σ = ((i : Int), 0, ⟨none, 0, 0⟩, ()) ∧ i ≤ c.length ∧ out.length = n ∧ set.length = n ∧
      (∀ v, v < n → (set.getD v false = true ↔ ((v : Int) + 1 ∈ c.take i ∨ -((v : Int) + 1) ∈ c.take i)) ∧ (out.getD v false = true ↔ (v : Int) + 1 ∈ c.take i) ∧ ¬ ((v : Int) + 1 ∈ c.take i ∧ -((v : Int) + 1) ∈ c.take i)) ∧
      modelGo n out set (c.drop i) = modelGo n (List.replicate n false) (List.replicate n false) c ∧ Hs [([], h)] [li c s] [io (bitsL out) s0] h' ∧ μ = c.length - i)
    ⟨_, 0, List.replicate n false, List.replicate n false, rfl, by omega, by simp, by simp, fun v hv => by simp [List.getD_eq_getElem?_getD, List.getElem?_replicate, hv], rfl, st, rfl⟩ ?_
  clear st
  rintro μ σ h3 X ⟨i, out, set, rfl, hi, ho, hs, hinv, hm, st, em⟩ hX
  simp only
  have l0 := osl_len (st.own 0 rfl)
  rw [List.length_map] at l0
  by_cases hlt : i < c.length
  · rw [show decide ((i : Int) < (s.len : Int)) = true by rw [l1]; exact dlt_t hlt, brB_true, inc_i (show i < 4611686018427387904 by omega)]
    rw [List.drop_eq_getElem_cons hlt, modelGo_cons] at hm
    refine rdE (τ := i64) (st.fz 0 rfl) hlt ?_
    refine call_of (rvar_c c[i]) ?_
    rintro r hq2 ⟨er, rfl⟩
    have er : r = varL c[i] := er
    subst er
    by_cases q1 : varL c[i] < 1
    · rw [if_pos (bey_iff.2 (.inl q1))] at hm
      rw [decide_eq_true q1, brB_true]
      rw [← hm] at hK
      exact hK _ _ ⟨⟨none, 0, 0⟩, rfl, osl_nil _ _, st.frame (by simp)⟩
    rw [decide_eq_false q1, brB_false]
    by_cases q2 : varL c[i] > (n : Int)
    · rw [if_pos (bey_iff.2 (.inr q2))] at hm
      rw [decide_eq_true q2, brB_true]
      rw [← hm] at hK
      exact hK _ _ ⟨⟨none, 0, 0⟩, rfl, osl_nil _ _, st.frame (by simp)⟩
    rw [decide_eq_false q2, brB_false]
    have hbf : beyP n c[i] = false := by
      cases hb : beyP n c[i] with
      | false => rfl
      | true => rcases bey_iff.1 hb with q | q <;> omega
    rw [if_neg (by rw [hbf]; decide)] at hm
    have hrt := (bey_rt hbf).1
    have h0' := rt_iff.1 hrt
    have hvx : c[i] = varL c[i] ∨ c[i] = -varL c[i] := by unfold varL; rw [if_pos hrt]; split <;> omega
    have hc0 : c[i] ≠ 0 := by omega
    have hv : (varL c[i] - 1).toNat < n := by omega
    have hve : (((varL c[i] - 1).toNat : Nat) : Int) + 1 = varL c[i] := by omega
    have e1 : IntKind.wrap .i64 (varL c[i] - 1) = (((varL c[i] - 1).toNat : Nat) : Int) := by
      have := varL_pos hrt
      rw [wrap_i64 (by omega) (by omega)]; omega
    obtain ⟨i1, i2, i3⟩ := hinv _ hv
    rw [hve] at i1 i2 i3
    refine ⟨Int.natCast_nonneg _, Int.ofNat_le.2 (show i ≤ s.cap by omega), ?_⟩
    rw [Int.toNat_natCast]
    have hS := rsl_sub (st.fz 0 rfl) (l := 0) (m := i) (by omega) (by omega)
    rw [List.drop_zero] at hS
    refine rdE (τ := i64) (st.fz 0 rfl) hlt ?_
    rw [wneg hrt]
    refine call_of (r2_has_c hS (by simp; omega) (-c[i])) ?_
    rintro r hq2 ⟨er, rfl⟩
    have er : r = (c.take i).contains (-c[i]) := er
    subst er
    have hclash : (set.getD (varL c[i] - 1).toNat false && (out.getD (varL c[i] - 1).toNat false == decide (c[i] < 0))) = (c.take i).contains (-c[i]) := by
      rw [Bool.eq_iff_iff, Bool.and_eq_true, i1, beq_iff_eq]
      have hin : (c.take i).contains (-c[i]) = true ↔ -c[i] ∈ c.take i := by simp
      rw [hin]
      by_cases hneg : c[i] < 0
      · have e : c[i] = -varL c[i] := by rcases hvx with q | q <;> omega
        have e' : -c[i] = varL c[i] := by omega
        rw [decide_eq_true hneg, i2, e']
        exact ⟨fun q => q.2, fun q => ⟨.inl q, q⟩⟩
      · have e : c[i] = varL c[i] := by rcases hvx with q | q <;> omega
        have e' : -c[i] = -varL c[i] := by omega
        rw [decide_eq_false hneg, e']
        constructor
        · rintro ⟨q | q, r⟩
          · rw [i2.2 q] at r; cases r
          · exact q
        · intro q
          refine ⟨.inr q, ?_⟩
          cases hb : out.getD (varL c[i] - 1).toNat false with
          | false => rfl
          | true => exact absurd ⟨i2.1 hb, q⟩ i3
    rw [hclash] at hm
    cases hcl : (c.take i).contains (-c[i]) with
    | true =>
      rw [hcl, if_pos rfl] at hm
      rw [brB_true]
      rw [← hm] at hK
      exact hK _ _ ⟨⟨none, 0, 0⟩, rfl, osl_nil _ _, st.frame (by simp)⟩
    | false =>
      rw [hcl, if_neg (by decide)] at hm
      rw [brB_false]
      have hnin : -c[i] ∉ c.take i := fun q => by
        have : (c.take i).contains (-c[i]) = true := by simpa using q
        rw [hcl] at this; cases this
      refine rdE (τ := i64) (st.fz 0 rfl) hlt ?_
      refine jn_in fun J hJ => ?_
      have hlen : (varL c[i] - 1).toNat < out.length := by omega
      have fin : ∀ h', Hs [([], h)] [li c s] [io (bitsL (out.set (varL c[i] - 1).toNat (!decide (c[i] < 0)))) s0] h' → J () h' := by
        intro h' st
        refine hJ _ _ (hX _ _ _ ⟨i + 1, _, _, rfl, by omega, by simpa using ho, by simpa using hs, fun v hv' => ?_, hm, st, rfl⟩ (by omega))
        obtain ⟨j1, j2, j3⟩ := hinv v hv'
        rw [take_succ_getE hlt]
        simp only [List.mem_append, List.mem_singleton]
        by_cases hvv : v = (varL c[i] - 1).toNat
        · subst hvv
          rw [hve]
          rw [List.getD_eq_getElem?_getD, List.getElem?_set_self (by omega), List.getD_eq_getElem?_getD, List.getElem?_set_self (by omega)]
          rw [Option.getD_some, Option.getD_some]
          by_cases hneg : c[i] < 0
          · have e : c[i] = -varL c[i] := by rcases hvx with q | q <;> omega
            have hni : varL c[i] ∉ c.take i := fun q => hnin (by rw [show -c[i] = varL c[i] by omega]; exact q)
            refine ⟨⟨fun _ => .inr (.inr e.symm), fun _ => rfl⟩, ?_, ?_⟩
            · rw [decide_eq_true hneg]
              exact ⟨fun q => (by cases q), fun q => q.elim (fun q => absurd q hni) fun q => (by omega)⟩
            · rintro ⟨q | q, _⟩
              · exact hni q
              · omega
          · have e : c[i] = varL c[i] := by rcases hvx with q | q <;> omega
            have hni : -varL c[i] ∉ c.take i := fun q => hnin (by rw [show -c[i] = -varL c[i] by omega]; exact q)
            refine ⟨⟨fun _ => .inl (.inr e.symm), fun _ => rfl⟩, ?_, ?_⟩
            · rw [decide_eq_false hneg]
              exact ⟨fun _ => .inr e.symm, fun _ => rfl⟩
            · rintro ⟨_, q | q⟩
              · exact hni q
              · omega
        · rw [List.getD_eq_getElem?_getD, List.getElem?_set_ne (fun e => hvv e.symm), List.getD_eq_getElem?_getD, List.getElem?_set_ne (fun e => hvv e.symm), ← List.getD_eq_getElem?_getD, ← List.getD_eq_getElem?_getD]
          have ne1 : ¬ (v : Int) + 1 = c[i] := by rcases hvx with q | q <;> omega
          have ne2 : ¬ -((v : Int) + 1) = c[i] := by rcases hvx with q | q <;> omega
          refine ⟨?_, ?_, ?_⟩
          · rw [j1]; simp [ne1, ne2]
          · rw [j2]; simp [ne1]
          · simpa [ne1, ne2] using j3
      have emap : ∀ b, bitsL (out.set (varL c[i] - 1).toNat b) = (bitsL out).set (varL c[i] - 1).toNat (bitI b) := fun b => by simp [bitsL, List.map_set]
      by_cases hpos : c[i] > 0
      · rw [decide_eq_true hpos, brB_true, e1]
        refine st.wrE (τ := i64) 0 rfl (show (varL c[i] - 1).toNat < (bitsL out).length by rw [List.length_map]; omega) 1 fun h4 st => ?_
        simp only [List.set_cons_zero] at st
        refine fin _ ?_
        rw [decide_eq_false (show ¬ c[i] < 0 by omega), emap]; exact st
      · rw [decide_eq_false hpos, brB_false]
        refine fin _ ?_
        have hneg : c[i] < 0 := by omega
        have hout : out.getD (varL c[i] - 1).toNat false = false := by
          cases hb : out.getD (varL c[i] - 1).toNat false with
          | false => rfl
          | true => exact absurd (i2.1 hb) fun q => hnin (by rw [show -c[i] = varL c[i] by rcases hvx with q | q <;> omega]; exact q)
        rw [decide_eq_true hneg]
        have : out.set (varL c[i] - 1).toNat (!true) = out := by
          rw [List.getD_eq_getElem?_getD, List.getElem?_eq_getElem hlen, Option.getD_some] at hout
          rw [Bool.not_true, ← hout, List.set_getElem_self]
        rw [this]; exact st
  · rw [show decide ((i : Int) < (s.len : Int)) = false by rw [l1]; exact dlt_f hlt, brB_false]
    rw [List.drop_eq_nil_of_le (by omega), modelGo_nil] at hm
    rw [← hm] at hK
    exact hK _ _ ⟨s0, rfl, st.res (by simp) 0 rfl, st.frame (by simp)⟩

end Go.Proofs.S
