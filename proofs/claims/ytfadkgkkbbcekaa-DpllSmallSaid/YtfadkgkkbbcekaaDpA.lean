/-
  The package dpll: values, what a clause is, what follows: contracts.
-/
import Derived.Test.YtfadkgkkbbcekaaFoT
import Derived.Test.YtfadkgkkbbcekaaDpS
import Derived.Test.YtfadkgkkbbcekaaSxSort
set_option linter.unusedVariables false
set_option linter.unusedSimpArgs false
namespace Go.Proofs.S
open Go Go.Sx Go.Proofs Go.Cl Go.Dp

variable {h : Heap} {c d L : List Int} {s s2 sv : Sl} {fr : Fr} {G As : List Asn} {b sb v : Nat} {g fu : Int} {cs : List (List Int)}

abbrev srch (sb v : Nat) (s sv : Sl) (g fu : Int) : Asn := cl sb ty_dpll_search [.int .i64 v, .slice s.a s.len s.cap, .slice sv.a sv.len sv.cap, .int .i64 g, .int .i64 fu]
abbrev vrow (v : Nat) (L : List Int) (sv : Sl) : Asn := osl ty_int i64.enc (row v L) sv

theorem var_c (x : Int) : callT Try.prog fn_lits_Var #[.int .i64 x] (.int .i64) (fun r h' => r = varL x ∧ h' = h) h := lits_Var_c x

theorem value_c (hb : At h (srch sb v s sv g fu)) (hv : At h (vrow v L sv)) (hA : Asg v L) {x : Int} (hr : rt x = true) (hx : varL x ≤ v) :
    callT Try.prog fn_dpll_search_value #[.pointer (some ⟨sb, 0, none⟩), .int .i64 x] (.int .i64) (fun r h' => r = tv L x ∧ h' = h) h := by
  refine callT_gen fun K hK => S_dpll_search_value (a0 := some ⟨sb, 0, none⟩) (a1 := x) K ?_
  unfold F_dpll_search_value
  obtain ⟨_, _, kb⟩ := hb
  have hp := Fo.varL_pos hr
  rw [nn_some]
  simp only [addr_add, Nat.zero_add]
  rw [ld_sl (i := 2) kb rfl]
  refine call_of (var_c x) ?_
  rintro _ h1 ⟨rfl, e⟩; subst e
  rw [ck_ok (i := 2) kb rfl]
  obtain ⟨n, hn⟩ : ∃ n : Nat, varL x = n := ⟨(varL x).toNat, by omega⟩
  rw [hn]
  refine rd_ok (τ := i64) hv.rsl (row_at (show n ≤ v by omega)) ?_
  refine call_of (neg_c x) ?_
  rintro _ h2 ⟨rfl, e⟩; subst e
  rw [hr, Bool.true_and]
  have hval := value_tv hA hr
  rw [hn] at hval
  have hc := tv_cases (L := L) (x := (n : Int))
  by_cases h0 : x < 0
  · refine brT (decide_eq_true h0) (hK _ _ ⟨?_, rfl⟩)
    rw [if_pos h0] at hval
    have e : IntKind.wrap .i64 (0 - tv L (n : Int)) = -tv L (n : Int) := by rcases hc with e | e | e <;> rw [e] <;> rfl
    exact e.trans hval
  · refine brF (decide_eq_false h0) (hK _ _ ⟨?_, rfl⟩)
    rw [if_neg h0] at hval
    exact hval

theorem Hs.setV {k : Nat} (st : Hs fr G As h) (kb : Nat) (hb : As[kb]? = some (srch sb v s sv g fu)) (hk : As[k]? = some (vrow v L sv)) (hne : k ≠ kb) {x : Int} (hA : Asg v (L ++ [x])) {K : Unit → HP}
    (hK : ∀ h', Hs fr G (As.set k (vrow v (L ++ [x]) sv)) h' → K () h') : callT Try.prog fn_dpll_search_set #[.pointer (some ⟨sb, 0, none⟩), .int .i64 x] (.tup .nil) K h := by
  obtain ⟨hr, hx⟩ := hA.inV x (by simp)
  have hp := Fo.varL_pos hr
  have hkl : k < As.length := (List.getElem?_eq_some_iff.1 hk).1
  refine S_dpll_search_set (a0 := some ⟨sb, 0, none⟩) (a1 := x) K ?_
  unfold F_dpll_search_set
  rw [nn_some]
  simp only [addr_add, Nat.zero_add]
  rw [st.lds kb 2 hb rfl]
  refine call_of (var_c x) ?_
  rintro _ h1 ⟨rfl, e⟩; subst e
  rw [st.ck kb 2 hb rfl]
  obtain ⟨n, hn⟩ : ∃ n : Nat, varL x = n := ⟨(varL x).toNat, by omega⟩
  rw [hn]
  have hrs := row_set hA
  rw [hn, Int.toNat_natCast] at hrs
  refine st.wrE (τ := i64) k hk (i := n) (by rw [row_len]; omega) (1 : Int) fun h2 st => ?_
  have hb2 : (As.set k (osl ty_int i64.enc ((row v L).set n (1 : Int)) sv))[kb]? = some (srch sb v s sv g fu) := by rw [List.getElem?_set_ne hne]; exact hb
  refine call_of (neg_c x) ?_
  rintro _ h3 ⟨rfl, e⟩; subst e
  rw [hr, Bool.true_and]
  refine jn_in fun J hJ => ?_
  by_cases h0 : x < 0
  · rw [if_pos h0] at hrs
    refine brT (decide_eq_true h0) ?_
    rw [nn_some]
    simp only [addr_add, Nat.zero_add]
    rw [st.lds kb 2 hb2 rfl]
    refine call_of (var_c x) ?_
    rintro _ h4 ⟨rfl, e⟩; subst e
    rw [st.ck kb 2 hb2 rfl, hn]
    refine st.wrE (τ := i64) k (by rw [List.getElem?_set_self hkl]) (i := n) (by rw [List.length_set, row_len]; omega) (-1 : Int) fun h5 st => hJ _ _ (hK _ ?_)
    rw [List.set_set, List.set_set, hrs] at st
    exact st
  · rw [if_neg h0] at hrs
    refine brF (decide_eq_false h0) (hJ _ _ (hK _ ?_))
    rw [hrs] at st
    exact st

theorem Hs.clearV {k : Nat} (st : Hs fr G As h) (kb : Nat) (hb : As[kb]? = some (srch sb v s sv g fu)) {L1 L2 : List Int} {x : Int} (hk : As[k]? = some (vrow v (L1 ++ x :: L2) sv)) (hr : rt x = true) (hx : varL x ≤ v) (h0 : tv (L1 ++ L2) x = 0) {K : Unit → HP}
    (hK : ∀ h', Hs fr G (As.set k (vrow v (L1 ++ L2) sv)) h' → K () h') : F_dpll_search_clear (some ⟨sb, 0, none⟩) x K h := by
  have hp := Fo.varL_pos hr
  unfold F_dpll_search_clear
  rw [nn_some]
  simp only [addr_add, Nat.zero_add]
  rw [st.lds kb 2 hb rfl]
  refine call_of (var_c x) ?_
  rintro _ h1 ⟨rfl, e⟩; subst e
  rw [st.ck kb 2 hb rfl]
  obtain ⟨n, hn⟩ : ∃ n : Nat, varL x = n := ⟨(varL x).toNat, by omega⟩
  rw [hn]
  have hrs := row_clear hr hx h0
  rw [hn, Int.toNat_natCast] at hrs
  refine st.wrE (τ := i64) k hk (i := n) (by rw [row_len]; omega) (0 : Int) fun h2 st => hK _ ?_
  rw [hrs] at st
  exact st

theorem i64_ne2 {n : Nat} (h : n ≤ 2) : (IntKind.wrap .i64 ((n : Int) + 1)) = ((n + 1 : Nat) : Int) := by rw [wrap_i64 (by omega) (by omega)]; omega

theorem last_loop {K : (Int × Int × Unit) → HP} (hb : At h (srch sb v s sv g fu)) (hv : At h (vrow v L sv)) (hA : Asg v L) {sc : Sl} (hc : At h (li c sc)) (hl : c.length ≤ 1099511627776) (hi : ∀ y ∈ c, rt y = true ∧ varL y ≤ v)
    (hK : K ((lastP L c).1, ((lastP L c).2 : Int), ()) h) : callT Try.prog fn_dpll_search_last #[.pointer (some ⟨sb, 0, none⟩), .slice sc.a sc.len sc.cap] (.tup (.cons (.int .i64) (.cons (.int .i64) .nil))) K h := by
  refine S_dpll_search_last (a0 := some ⟨sb, 0, none⟩) (a1 := sc) K ?_
  unfold F_dpll_search_last
  have lc := rsl_len hc
  refine lfp_invh (I := fun m σ h' => ∃ (i n : Nat) (one z1 z2 : Int), σ = ((i : Int), (n : Int), one, z1, z2, ()) ∧ i ≤ c.length ∧ n ≤ 1 ∧ h' = h ∧ lastGo L one n (c.drop i) = lastP L c ∧ m = c.length - i)
    ⟨_, 0, 0, 0, 0, 0, rfl, by omega, by omega, rfl, by rw [List.drop_zero]; rfl, rfl⟩ ?_
  rintro m σ h1 X ⟨i, n, one, z1, z2, rfl, hi2, hn, rfl, hg, rfl⟩ hX
  simp only
  by_cases hlt : i < c.length
  · rw [decide_eq_true (show (i : Int) < (sc.len : Int) by omega), brB_true]
    have hd : c.drop i = c[i] :: c.drop (i + 1) := List.drop_eq_getElem_cons hlt
    rw [hd] at hg
    unfold lastGo at hg
    obtain ⟨hr, hx⟩ := hi c[i] (List.getElem_mem hlt)
    refine rd_ok (τ := i64) hc (List.getElem?_eq_getElem hlt) ?_
    refine call_of (value_c hb hv hA hr hx) ?_
    rintro _ h2 ⟨rfl, e⟩; subst e
    by_cases hp : tv L c[i] > 0
    · rw [if_pos hp] at hg
      refine brT (decide_eq_true hp) ?_
      rw [← hg] at hK; exact hK
    rw [if_neg hp] at hg
    refine brF (decide_eq_false hp) ?_
    rw [inc_i (show i < 4611686018427387904 by omega)]
    refine jn_in fun J hJ => ?_
    have step : ∀ t : Bool, t = decide (tv L c[i] = 0 ∧ c[i] ≠ one) → J t h2 := by
      rintro t ht
      refine hJ _ _ ?_
      refine jn_in fun J2 hJ2 => ?_
      by_cases hz : tv L c[i] = 0 ∧ c[i] ≠ one
      · rw [if_pos hz] at hg
        refine brT (ht.trans (decide_eq_true hz)) ?_
        rw [i64_ne2 (show n ≤ 2 by omega)]
        by_cases h2n : n + 1 = 2
        · rw [if_pos h2n] at hg
          rw [h2n]
          refine brT rfl ?_
          rw [← hg] at hK; exact hK
        · rw [if_neg h2n] at hg
          refine brF (beq_eq_false_iff_ne.2 (by omega)) ?_
          refine hJ2 _ _ ?_
          exact hX _ _ _ ⟨i + 1, n + 1, c[i], z1, z2, rfl, by omega, by omega, rfl, hg, rfl⟩ (by omega)
      · rw [if_neg hz] at hg
        refine brF (ht.trans (decide_eq_false hz)) ?_
        refine hJ2 _ _ ?_
        exact hX _ _ _ ⟨i + 1, n, one, z1, z2, rfl, by omega, hn, rfl, hg, rfl⟩ (by omega)
    by_cases hz : tv L c[i] = 0
    · refine brT (beq_iff_eq.2 hz) (step _ ?_)
      by_cases h1 : c[i] = one
      · rw [h1]; simp
      · rw [decide_eq_true ⟨hz, h1⟩]; exact bne_iff_ne.2 h1
    · exact brF (beq_eq_false_iff_ne.2 hz) (step _ (by simp [hz]))
  · rw [decide_eq_false (show ¬ (i : Int) < (sc.len : Int) by omega), brB_false]
    have hd : c.drop i = [] := List.drop_eq_nil_of_le (by omega)
    rw [hd] at hg
    unfold lastGo at hg
    rw [← hg] at hK
    exact hK

end Go.Proofs.S

set_option linter.unusedVariables false
namespace Go.Sx
open Go

def starA (As : List Asn) : Asn where
  P := fun S h => Sep As S h
  loc := fun p hz hk => Sep.keep p hz hk
  cel := fun p => Sep.cel p

theorem Sep.parts : ∀ {As Bs : List Asn} {S : List Nat} {h : Heap}, Sep (As ++ Bs) S h → ∃ S1 S2, S = S1 ++ S2 ∧ (∀ b ∈ S1, b ∉ S2) ∧ Sep As S1 h ∧ Sep Bs S2 h
  | [], Bs, S, h, hs => ⟨[], S, rfl, by simp, rfl, hs⟩
  | A :: As, Bs, S, h, ⟨S1, S2, e, hd, hA, hs⟩ => by
    obtain ⟨T1, T2, e2, hd2, h1, h2⟩ := Sep.parts hs
    subst e2; subst e
    refine ⟨S1 ++ T1, T2, by simp, fun b hb hin => ?_, ⟨S1, T1, rfl, fun b hb hin => hd b hb (by simp [hin]), hA, h1⟩, h2⟩
    rcases List.mem_append.1 hb with k | k
    · exact hd b k (by simp [hin])
    · exact hd2 b k hin

def SepTo (As Bs : List Asn) : Prop := ∀ S h, Sep As S h → ∃ S', Sep Bs S' h ∧ ∀ b ∈ S', b ∈ S
theorem SepTo.pack (As Bs Cs : List Asn) : SepTo (As ++ (Bs ++ Cs)) (As ++ starA Bs :: Cs) := fun S h hs => by
  obtain ⟨S1, S2, e, hd, h1, h2⟩ := hs.parts
  obtain ⟨S3, S4, e2, hd2, h3, h4⟩ := h2.parts
  subst e2; subst e
  exact ⟨S1 ++ (S3 ++ S4), h1.append ⟨S3, S4, rfl, hd2, h3, h4⟩ hd, fun b hb => hb⟩
theorem SepTo.unpack (As Bs Cs : List Asn) : SepTo (As ++ starA Bs :: Cs) (As ++ (Bs ++ Cs)) := fun S h hs => by
  obtain ⟨S1, S2, e, hd, h1, S3, S4, e2, hd2, h3, h4⟩ := hs.parts
  subst e2; subst e
  exact ⟨S1 ++ (S3 ++ S4), h1.append (Sep.append h3 h4 hd2) hd, fun b hb => hb⟩
theorem SepTo.hd {As : List Asn} (k : Nat) {A : Asn} (hk : As[k]? = some A) : SepTo As (A :: As.eraseIdx k) := fun S h hs => by
  obtain ⟨S1, S2, hm, hd, hA, hr, _⟩ := hs.focus k hk
  exact ⟨S1 ++ S2, ⟨S1, S2, rfl, hd, hA, hr⟩, fun b hb => (hm b).2 (List.mem_append.1 hb)⟩

section
variable {fr : Fr} {G As Bs : List Asn} {h h' : Heap}
theorem Hs.conv (st : Hs fr G As h) (c : SepTo As Bs) : Hs fr G Bs h := by
  obtain ⟨S, hs, hz, hf⟩ := st
  obtain ⟨S', hs', hm⟩ := c S h hs
  exact ⟨S', hs', hz.mono fun b hb => .inl (hm b hb), hf.mono fun b hb => .inl (hm b hb)⟩
theorem Hs.hd (st : Hs fr G As h) (k : Nat) {A : Asn} (hk : As[k]? = some A) : Hs fr G (A :: As.eraseIdx k) h := st.conv (SepTo.hd k hk)
end

section
variable {P : Program} {τ : Ty} {h : Heap} {Nx : List τ.T → τ.T → Heap → List Nat → Prop} {Nv : List τ.T → τ.T → Prop} {F : List Nat} {α : Type} {A : List τ.T → List Nat → HP} {D : List Nat → HP} {yl : Value} {G As Bs : List Asn} {pre : List τ.T} {B : List Nat} {h' : Heap}

theorem It.conv {A : List α → List Nat → HP} {pre : List α} (it : It h F A G As pre B h') (c : SepTo As Bs) : It h F A G Bs pre B h' := by
  obtain ⟨hA, hz, hBF, hF, hBl, S, hs, hS, hG⟩ := it
  obtain ⟨S', hs', hm⟩ := c S h' hs
  exact ⟨hA, hz, hBF, hF, hBl, S', hs', fun b hb => hS b (hm b hb), hG⟩

def Stab (h : Heap) (A : List α → List Nat → HP) : Prop := ∀ pre B h1 h2 T, A pre B h1 → Ext T h1 h2 → (∀ t ∈ T, t ∉ B ∧ (h.size ≤ t ∨ t ∈ ([] : List Nat))) → A pre B h2

theorem It.openS {A : List α → List Nat → HP} {pre : List α} (c : Stab h A) (it : It h F A G As pre B h') : ∃ S, Hs [(S, h')] G As h' ∧ ∀ As2 h2, Hs [(S, h')] G As2 h2 → It h F A G As2 pre B h2 := by
  obtain ⟨hA, hz, hBF, hF, hBl, S, hs, hS, hG⟩ := it
  have hSF : ∀ b ∈ F, b ∉ S := fun b hb hin => by have := hF b hb; have := (hS b hin).1; omega
  refine ⟨S, ⟨S, hs, fun C hC => ?_, fun p hp => ?_⟩, ?_⟩
  · obtain ⟨SC, p, q⟩ := hG C hC
    exact ⟨SC, p, fun b hb hin => hSF b (q b hb) hin⟩
  · simp at hp; subst hp; exact ⟨Ext.refl' _ _, fun b hb => .inl hb⟩
  · rintro As2 h2 ⟨S2, hs2, hz2, hf2⟩
    obtain ⟨x, hS2⟩ := hf2 (S, h') (by simp)
    simp only at x hS2
    have x1 := x.1
    refine ⟨c pre B h' h2 S hA x fun t ht => ⟨(hS t ht).2, .inl (hS t ht).1⟩, by omega, hBF, hF, fun b hb => by have := hBl b hb; omega, S2, hs2, fun b hb => ?_, fun C hC => ?_⟩
    · rcases hS2 b hb with k | k
      · exact hS b k
      · exact ⟨by omega, fun hin => by have := hBl b hin; omega⟩
    · obtain ⟨SC, p, q⟩ := hG C hC
      exact ⟨SC, Asn.ext p x fun b hb hin => hSF b (q b hb) hin, q⟩

theorem It.giveD (c : Client P τ h Nx F A D yl) (it : It h F A G As pre B h') {x : τ.T} (k : Nat) {C : Asn} (hk : As[k]? = some C) (hx : ∀ N, C.P N h' → Nx pre x h' N) {K : Bool → HP}
    (hT : ∀ B' h2, It h F A G (As.eraseIdx k) (pre ++ [x]) B' h2 → K true h2) (hF : ∀ B' h2, It h F (fun (_ : List τ.T) => D) G (As.eraseIdx k) [] B' h2 → K false h2) : callF P yl (τ.vals x).toArray .bool K h' := by
  obtain ⟨hA, hz, hBF, hFl, hBl, S, hs, hS, hG⟩ := it
  obtain ⟨N, S2, hm, hd, hC, hr, _⟩ := hs.focus k hk
  have hSN : ∀ b ∈ N, b ∈ S := fun b hb => (hm b).2 (.inl hb)
  have hS2 : ∀ b ∈ S2, b ∈ S := fun b hb => (hm b).2 (.inr hb)
  have hNlt : ∀ b ∈ N, b < h'.size := fun b hb => (hs.cel b (hSN b hb)).lt
  refine CallV.mono (c.yields pre x B h' N (hx N hC) (fun b hb => ⟨(hS b (hSN b hb)).1, hNlt b hb, (hS b (hSN b hb)).2⟩) hA) ?_
  rintro v h2 ⟨B', f, xC, hv⟩
  have hNB : ∀ b ∈ F, b ∉ N ++ B := fun b hb hin => by
    rcases List.mem_append.1 hin with k | k
    · have := hFl b hb; have := (hS b (hSN b k)).1; omega
    · exact hBF b k hb
  have hSB : ∀ b ∈ S2, b ∉ N ++ B := fun b hb hin => by
    rcases List.mem_append.1 hin with k | k
    · exact hd b k hb
    · exact (hS b (hS2 b hb)).2 k
  have key : ∀ {A2 : List τ.T → List Nat → HP} {pre2 : List τ.T}, A2 pre2 B' h2 → It h F A2 G (As.eraseIdx k) pre2 B' h2 := fun {A2 pre2} hA' => by
    refine ⟨hA', by have := xC.1; omega, fun b hb hin => ?_, hFl, fun b hb => ?_, S2, hr.keep xC.1 fun b hb => xC.2 b (hr.cel b hb).lt (hSB b hb) (hr.cel b hb), fun b hb => ⟨(hS b (hS2 b hb)).1, fun hin => ?_⟩, fun C hC => ?_⟩
    · rcases f.1 b hb with k | k
      · exact hNB b hin k
      · have := hFl b hin; omega
    · rcases f.2 b hb with k | k
      · have e := xC.1
        rcases List.mem_append.1 k with k | k
        · have := hNlt b k; omega
        · have := hBl b k; omega
      · exact k
    · rcases f.1 b hin with k | k
      · exact hSB b hb k
      · have := (hr.cel b hb).lt; omega
    · obtain ⟨SC, p, q⟩ := hG C hC
      exact ⟨SC, C.loc p xC.1 fun b hb => xC.2 b (At.lt p b hb) (hNB b (q b hb)) (C.cel p b hb), q⟩
  rcases hv with ⟨rfl, hA'⟩ | ⟨rfl, hD⟩
  · exact ⟨true, rfl, hT B' h2 (key hA')⟩
  · exact ⟨false, rfl, hF B' h2 (key (A2 := fun _ => D) hD)⟩

theorem iter_ofD {fv : Value} {Fin : List τ.T → Prop} (hG : ∀ C ∈ G, ∃ SC, C.P SC h ∧ ∀ b ∈ SC, b ∈ F) (hF : ∀ b ∈ F, b < h.size)
    (walk : ∀ (A : List τ.T → List Nat → HP) (D : List Nat → HP) (B0 : List Nat) (yl : Value), leafB yl = true → Client P τ h Nx F A D yl → Stab h (fun (_ : List τ.T) => D) → It h F A G [] [] B0 h →
      ∀ K : Unit → HP, (∀ pre B h2, Fin pre → A pre B h2 → K () h2) → (∀ B h2, D B h2 → K () h2) → callF P fv #[yl] (.tup .nil) K h) :
    IterG P τ fv h Nx Fin F [] := by
  intro A D B0 hB0 sA sD yl hlf hy hA
  let A' : List τ.T → List Nat → HP := fun pre B h1 => A pre B h1 ∧ ∀ b ∈ B, b < h1.size
  have key := walk A' (fun B h2 => D B h2) B0 yl hlf ⟨?_, ?_, fun pre B h1 hh => hh.2⟩ (fun pre B h1 h2 T d x hT => sD B h1 h2 T d x hT) ⟨⟨hA, fun b hb => (hB0 b hb).1⟩, Nat.le_refl _, fun b hb => (hB0 b hb).2.1, hF, fun b hb => (hB0 b hb).1, [], rfl, by simp, hG⟩
    (fun _ h2 => ∃ B', (∃ pre, Fin pre ∧ A pre B' h2) ∨ D B' h2) (fun pre B h2 hf hh => ⟨B, .inl ⟨pre, hf, hh.1⟩⟩) (fun B h2 hD => ⟨B, .inr hD⟩)
  · exact CallV.mono key fun v h2 ⟨_, _, r⟩ => r
  · rintro pre B h1 h2 T ⟨ha, hl⟩ x hT
    exact ⟨sA pre B h1 h2 T ha x hT, fun b hb => Nat.lt_of_lt_of_le (hl b hb) x.1⟩
  · rintro pre x B h1 N hx hN ⟨ha, hl⟩
    refine CallV.mono (hy pre x B h1 N hx hN ha) ?_
    rintro v h2 ⟨B', f, xC, hv⟩
    exact ⟨B', f, xC, hv.imp (fun ⟨e, k⟩ => ⟨e, k, fun b hb => (f.2 b hb).elim (fun k => Nat.lt_of_lt_of_le ((List.mem_append.1 k).elim (fun k => (hN b k).2.1) (hl b)) xC.1) id⟩) id⟩

end
end Go.Sx

set_option linter.unusedVariables false
set_option linter.unusedSimpArgs false
namespace Go.Proofs.S
open Go Go.Sx Go.Proofs Go.Cl Go.Dp

variable {h : Heap} {c d L : List Int} {s s2 sv : Sl} {fr : Fr} {G As : List Asn} {b sb v : Nat} {g fu : Int} {cs : List (List Int)}

theorem Hs.follow {R : Asn} (st : Hs fr G [srch sb v s sv g fu, vrow v L sv, R] h) (hcs : ∀ h', (∀ C ∈ G, At h' C) → At h' R → At h' (lli cs s)) (hA : Asg v L) (hi : Fo.InV v cs) (hl : cs.length ≤ 1048576) (hc : ∀ c ∈ cs, c.length ≤ 1048576) (hv : v ≤ 1048576)
    {K : (Sl × Int × Unit) → HP} (hK : ∀ so h', Hs fr G [srch sb v s sv g fu, vrow v (L ++ (followP v cs L).1) sv, R, lo (followP v cs L).1 so] h' → K (so, (followP v cs L).2, ()) h') :
    callT Try.prog fn_dpll_search_follow #[.pointer (some ⟨sb, 0, none⟩)] (.tup (.cons .sl (.cons (.int .i64) .nil))) K h := by
  refine S_dpll_search_follow (a0 := some ⟨sb, 0, none⟩) K ?_
  unfold F_dpll_search_follow
  have st0 := st.nil ty_lits_Lit i64.enc none
  simp only [List.cons_append, List.nil_append] at st0
  refine lfp_invh (I := fun m σ h' => ∃ (out : List Int) (so z2 : Sl) (z1 : Int), σ = (so, z1, z2, ()) ∧ Nw v L out ∧ Hs fr G [srch sb v s sv g fu, vrow v (L ++ out) sv, R, lo out so] h' ∧
      followP v cs L = (out ++ (followGo cs m (L ++ out)).1, (followGo cs m (L ++ out)).2) ∧ freeN v (L ++ out) < m)
    ⟨v + 1, [], _, _, _, rfl, trivial, by rw [List.append_nil]; exact st0, by rw [List.append_nil, List.nil_append]; rfl, by have := freeN_le (v := v) (L := L ++ []); omega⟩ ?_
  clear st st0
  rintro m σ h1 X ⟨out, so, z2, z1, rfl, hn, st, hf, hm⟩ hX
  simp only
  have hA1 := hn.asg hA
  have hol := freeN_app hn
  have hfl := freeN_le (v := v) (L := L)
  rw [nn_some]
  simp only [addr_add, Nat.zero_add]
  rw [st.lds 0 1 rfl rfl]
  have hcl := hcs _ (fun C hC => st.fzm hC) (st.own 2 rfl)
  have ls := rsg_len hcl
  obtain ⟨n, rfl⟩ : ∃ n, m = n + 1 := ⟨m - 1, by omega⟩
  unfold followGo at hf
  refine lfp_invh (I := fun m σ h' => ∃ (i : Nat) (next z1 : Int) (z2 : Sl), σ = ((i : Int), next, z1, z2, ()) ∧ i ≤ cs.length ∧ h' = h1 ∧ lookGo (L ++ out) i next (cs.drop i) = lookP (L ++ out) cs ∧ m = cs.length - i)
    ⟨_, 0, 0, _, _, rfl, by omega, rfl, by rw [List.drop_zero]; rfl, rfl⟩ ?_
  rintro m2 σ h2 X2 ⟨i, next, w1, w2, rfl, hi2, rfl, hg, rfl⟩ hX2
  simp only
  by_cases hlt : i < cs.length
  · rw [decide_eq_true (show (i : Int) < (s.len : Int) by omega), brB_true]
    have hd : cs.drop i = cs[i] :: cs.drop (i + 1) := List.drop_eq_getElem_cons hlt
    rw [hd] at hg
    unfold lookGo at hg
    have hcl2 := hc cs[i] (List.getElem_mem hlt)
    have hiv := hi cs[i] (List.getElem_mem hlt)
    rw [inc_i (show i < 4611686018427387904 by omega)]
    refine jn_in fun J hJ => ?_
    refine rdG hcl hlt fun p hp => ?_
    refine last_loop (st.own 0 rfl) (st.own 1 rfl) hA1 hp (by omega) hiv ?_
    by_cases h0 : (lastP (L ++ out) cs[i]).2 = 0
    · rw [if_pos h0] at hg
      rw [← hg] at hf
      rw [if_pos (show ((i : Int), next).1 ≥ 0 from Int.natCast_nonneg i)] at hf
      simp only [List.append_nil] at hf
      refine brT (by simp only [h0]; rfl) ?_
      have := hK so h2
      rw [hf] at this
      exact this st
    · rw [if_neg h0] at hg
      refine brF (beq_eq_false_iff_ne.2 fun e => h0 (Int.ofNat.inj e)) ?_
      have step : ∀ t : Bool, t = decide ((lastP (L ++ out) cs[i]).2 = 1 ∧ next = 0) → brB t (J ((lastP (L ++ out) cs[i]).1, w1, w2, ())) (J (next, w1, w2, ())) h2 := by
        rintro t ht
        by_cases hz : (lastP (L ++ out) cs[i]).2 = 1 ∧ next = 0
        · rw [if_pos hz] at hg
          refine brT (ht.trans (decide_eq_true hz)) (hJ _ _ ?_)
          exact hX2 _ _ _ ⟨i + 1, _, _, _, rfl, by omega, rfl, hg, rfl⟩ (by omega)
        · rw [if_neg hz] at hg
          refine brF (ht.trans (decide_eq_false hz)) (hJ _ _ ?_)
          exact hX2 _ _ _ ⟨i + 1, _, _, _, rfl, by omega, rfl, hg, rfl⟩ (by omega)
      refine jn_in fun J3 hJ3 => ?_
      by_cases h1 : (lastP (L ++ out) cs[i]).2 = 1
      · refine brT (by simp only [h1]; rfl) (hJ3 _ _ (step _ ?_))
        simp only [h1, true_and]; exact (Bool.beq_eq_decide_eq _ _)
      · refine brF (beq_eq_false_iff_ne.2 fun e => h1 (Int.ofNat.inj e)) (hJ3 _ _ (step _ ?_))
        simp [h1]
  · rw [decide_eq_false (show ¬ (i : Int) < (s.len : Int) by omega), brB_false]
    have hd : cs.drop i = [] := List.drop_eq_nil_of_le (by omega)
    rw [hd] at hg
    unfold lookGo at hg
    rw [← hg] at hf
    rw [if_neg (show ¬ ((-1 : Int), next).1 ≥ 0 by simp)] at hf
    by_cases h0 : next = 0
    · rw [if_pos h0] at hf
      simp only [List.append_nil] at hf
      refine brT (beq_iff_eq.2 h0) ?_
      have := hK so h2
      rw [hf] at this
      exact this st
    · rw [if_neg h0] at hf
      refine brF (beq_eq_false_iff_ne.2 h0) ?_
      have hx : (tv (L ++ out) next = 0 ∧ rt next = true ∧ varL next ≤ v) := by
        have := (follow_spec hi 1 (L ++ out)).1
        unfold followGo at this
        rw [← hg, if_neg (show ¬ ((-1 : Int), next).1 ≥ 0 by simp), if_neg (show ¬ ((-1 : Int), next).2 = 0 from h0)] at this
        exact this.1
      have hA2 := hA1.snoc hx.2.1 hx.2.2 hx.1
      refine Hs.setV (k := 1) st 0 rfl rfl (by decide) hA2 fun h3 st => ?_
      simp only [List.set_cons_succ, List.set_cons_zero] at st
      refine st.nw fun b14 h4 st => ?_
      refine st.apd (v := next) 3 4 rfl rfl (by decide) rfl (by omega) (by decide) rfl fun s15 h5 st => ?_
      simp only [List.cons_append, List.nil_append, List.set_cons_succ, List.set_cons_zero] at st
      have st := st.drop 4 rfl
      simp only [List.eraseIdx_cons_succ, List.eraseIdx_cons_zero] at st
      have hfs := freeN_snoc hx.2.1 hx.2.2 hx.1
      refine hX n _ _ ⟨out ++ [next], s15, w2, w1, rfl, ?_, ?_, ?_, ?_⟩ (by omega)
      · have : ∀ (o M : List Int), Nw v M o → (tv (M ++ o) next = 0 ∧ rt next = true ∧ varL next ≤ v) → Nw v M (o ++ [next]) := fun o => by
          induction o with
          | nil => intro M _ q; exact ⟨by simpa using q, trivial⟩
          | cons y o ih => intro M hm q; exact ⟨hm.1, ih _ hm.2 (by simpa using q)⟩
        exact this _ _ hn hx
      · rw [← List.append_assoc]; exact st
      · rw [← List.append_assoc, hf]
        simp
      · rw [← List.append_assoc]; omega

end Go.Proofs.S
