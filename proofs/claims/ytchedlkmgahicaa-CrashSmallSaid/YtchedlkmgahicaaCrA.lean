/-
  The package crash: Right, group, check, valid, Valid: contracts.
-/
import Derived.Test.YtchedlkmgahicaaCrF
import Derived.Test.YtchedlkmgahicaaCrP
import Derived.Test.YtchedlkmgahicaaSxN
import Derived.Test.YtchedlkmgahicaaSxG
set_option linter.unusedVariables false
set_option linter.unusedSimpArgs false
namespace Go.Proofs.S
open Go Go.Sx Go.Proofs Go.Cr

theorem callT_gen {P : Program} {f : FuncId} {args : Array Value} {τ : Ty} {R : τ.T → HP} {h : Heap} (hc : ∀ K : τ.T → HP, (∀ x h', R x h' → K x h') → callT P f args τ K h) : callT P f args τ R h :=
  hc R fun _ _ h => h

abbrev i64 : Ty := .int .i64
abbrev u32 : Ty := .int .u32
abbrev tE : Ty := .cons (.int .i64) (.cons (.int .u32) (.cons (.int .i64) .nil))
abbrev tR : Ty := .cons (.int .i64) (.cons (.int .i64) (.cons (.int .i64) .nil))
/-- Entries, of both kinds; truths; words; numbers. -/
abbrev le (l : List Ent) (s : Sl) : Asn := rsn 3 tE.vals l s
abbrev lr (l : List Ent) (s : Sl) : Asn := rsn 3 tR.vals l s
abbrev oe (l : List Ent) (s : Sl) : Asn := osn ty_disk_Entry 3 tE.vals l s
abbrev orr (l : List Ent) (s : Sl) : Asn := osn ty_salvorref35_Entry 3 tR.vals l s
abbrev lb (k : List Bool) (s : Sl) : Asn := rsl Ty.bool.enc k s
abbrev ob (k : List Bool) (s : Sl) : Asn := osl ty_bool Ty.bool.enc k s
abbrev lw (k : List Int) (s : Sl) : Asn := rsl u32.enc k s
abbrev ow (k : List Int) (s : Sl) : Asn := osl ty_bitword_Word u32.enc k s
abbrev li (k : List Int) (s : Sl) : Asn := rsl i64.enc k s
abbrev oi (k : List Int) (s : Sl) : Asn := osl ty_int i64.enc k s
theorem wideE : Wide 3 tE.vals := fun _ => rfl
theorem wideR : Wide 3 tR.vals := fun _ => rfl

variable {h : Heap} {l : List Ent} {k : List Bool} {m : List Int} {s s2 s3 : Sl} {fr : Fr} {G As : List Asn}

/-- An entry is read into a variable. -/
abbrev cE (b : Nat) (x : Ent) : Asn := cl b ty_disk_Entry [.int .i64 x.1, .int .u32 x.2.1, .int .i64 x.2.2.1]
theorem Hs.rdEnt (st : Hs fr G As h) (hA : At h (le l s)) {i : Nat} (hi : i < l.length) {K : Nat → HP} (hK : ∀ b h', Hs fr G (As ++ [cE b l[i]]) h' → K b h') :
    sx s.a s.len (i : Int) 3 (fun p => ldA tE p fun x => nw #[(.int .i64 (0 : Int)), (.int .u32 (0 : Int)), (.int .i64 (0 : Int))] ty_disk_Entry fun b =>
      st1 (⟨b, 0, none⟩ : Addr) (.int .i64 x.1) <| st1 ((⟨b, 0, none⟩ : Addr).add 1) (.int .u32 x.2.1) <| st1 ((⟨b, 0, none⟩ : Addr).add 2) (.int .i64 x.2.2.1) <| K b) h := by
  refine rdN (τ := tE) hA hi ?_
  refine st.nw fun b h1 st => ?_
  simp only [addr_add, Nat.zero_add]
  have e : ∀ c, (As ++ [c])[As.length]? = some c := fun c => by simp
  have e2 : ∀ c d, (As ++ [c]).set As.length d = As ++ [d] := fun c d => by rw [List.set_append_right _ _ (Nat.le_refl _), Nat.sub_self]; rfl
  refine st.st1 As.length 0 (e _) (by simp) fun h2 st => ?_
  rw [e2] at st
  refine st.st1 As.length 1 (e _) (by simp) fun h3 st => ?_
  rw [e2] at st
  refine st.st1 As.length 2 (e _) (by simp) fun h4 st => ?_
  rw [e2] at st
  exact hK b h4 st
theorem rdEp (hA : At h (le l s)) {i : Nat} (hi : i < l.length) {K : Int → HP} (hK : K (E l i) h) : sx s.a s.len (i : Int) 3 (fun p => ldT i64 (p.add 2) K) h :=
  rdNf (σ := i64) hA hi 2 (v := E l i) (by rw [E_get hi]; rfl) hK

theorem right_c (hA : At h (le l s)) (hl : l.length ≤ 1099511627776) : callT Try.prog fn_crash_Right #[.slice s.a s.len s.cap] .bool (fun r h' => r = rightL l ∧ Ext [] h h') h := by
  refine callT_gen fun K hK => S_crash_Right (a0 := s) K ?_
  unfold F_crash_Right
  have l1 := rsn_len hA
  have st := Hs.start h [le l s] (by simp [hA])
  refine lfp_invh (I := fun m σ h' => ∃ (i : Nat) (e : Int), σ = ((i : Int), e, false, ()) ∧ i ≤ l.length ∧ rightGo e (l.drop i) = rightGo 0 l ∧ Hs [([], h)] [le l s] [] h' ∧ m = l.length - i) ⟨_, 0, 0, rfl, by omega, rfl, st, rfl⟩ ?_
  clear st
  rintro m σ h2 X ⟨i, e, rfl, hi, hc, st, em⟩ hX
  simp only
  by_cases hlt : i < l.length
  · rw [show decide ((i : Int) < (s.len : Int)) = true by rw [l1]; exact dlt_t hlt, brB_true, inc_i (show i < 4611686018427387904 by omega)]
    rw [List.drop_eq_getElem_cons hlt] at hc
    simp only [rightGo] at hc
    refine Hs.rdEnt st (st.fz 0 rfl) hlt fun b h3 st => ?_
    simp only [addr_add, Nat.zero_add]
    rw [st.ldi 0 0 rfl rfl]
    by_cases h1 : l[i].1 < 0
    · rw [decide_eq_true h1, brB_true]
      refine hK _ _ ⟨?_, st.frame (by simp)⟩
      rw [rightL, ← hc, decide_eq_false (by omega)]; simp
    · rw [decide_eq_false h1, brB_false, st.ldi 0 0 rfl rfl]
      by_cases h2 : l[i].1 ≥ 16
      · rw [decide_eq_true h2, brB_true]
        refine hK _ _ ⟨?_, st.frame (by simp)⟩
        rw [rightL, ← hc, decide_eq_true (show 0 ≤ l[i].1 by omega), decide_eq_false (show ¬ l[i].1 < 16 by omega)]; simp
      · rw [decide_eq_false h2, brB_false, st.ldi 0 2 rfl rfl]
        by_cases h3 : l[i].2.2.1 < e
        · rw [decide_eq_true h3, brB_true]
          refine hK _ _ ⟨?_, st.frame (by simp)⟩
          rw [rightL, ← hc, decide_eq_false (show ¬ e ≤ l[i].2.2.1 by omega)]; simp
        · rw [decide_eq_false h3, brB_false, st.ldi 0 2 rfl rfl]
          refine hX _ _ _ ⟨i + 1, _, rfl, by omega, ?_, st.drop 0 rfl, rfl⟩ (by omega)
          rw [← hc, decide_eq_true (show 0 ≤ l[i].1 by omega), decide_eq_true (show l[i].1 < 16 by omega), decide_eq_true (show e ≤ l[i].2.2.1 by omega)]; simp
  · rw [show decide ((i : Int) < (s.len : Int)) = false by rw [l1]; exact dlt_f hlt, brB_false]
    rw [List.drop_eq_nil_of_le (by omega), rightGo] at hc
    refine hK _ _ ⟨?_, st.frame (by simp)⟩
    rw [rightL, ← hc, l1]; simp; omega

theorem check_c (hA : At h (le l s)) (hB : At h (lb k s2)) (hl : l.length ≤ 1099511627776) :
    callT Try.prog fn_crash_check #[.slice s.a s.len s.cap, .slice s2.a s2.len s2.cap] (.int .i64) (fun r h' => r = checkC l k ∧ Ext [] h h') h := by
  refine callT_gen fun K hK => S_crash_check (a0 := s) (a1 := s2) K ?_
  unfold F_crash_check
  refine call_of (right_c hA hl) ?_
  rintro _ h1 ⟨rfl, x1⟩
  unfold checkC at hK
  cases hr : rightL l with
  | false => simp only [Bool.not_false, brB_true]; exact hK _ _ ⟨by simp [hr], x1⟩
  | true =>
    simp only [Bool.not_true, brB_false, rsn_len hA, rsl_len hB]
    by_cases e : k.length = l.length
    · rw [show ((k.length : Int) != (l.length : Int)) = false by simp [e], brB_false]; exact hK _ _ ⟨by simp [hr, e], x1⟩
    · rw [show ((k.length : Int) != (l.length : Int)) = true by simp; omega, brB_true]; exact hK _ _ ⟨by simp [hr, e], x1⟩

/-- The end of the epoch that begins at an index. -/
def gEnd (l : List Ent) (i : Nat) : Nat := i + ((l.drop i).takeWhile fun y => y.2.2.1 == E l i).length

theorem gEnd_spec {l : List Ent} {i : Nat} (hi : i < l.length) : i < gEnd l i ∧ gEnd l i ≤ l.length ∧ (∀ j, i ≤ j → j < gEnd l i → E l j = E l i) ∧ (gEnd l i < l.length → E l (gEnd l i) ≠ E l i) := by
  have key : ∀ (l : List Ent) (p : Ent → Bool), (l.takeWhile p).length ≤ l.length ∧ (∀ j (hj : j < l.length), j < (l.takeWhile p).length → p l[j] = true) ∧ (∀ hj : (l.takeWhile p).length < l.length, p (l[(l.takeWhile p).length]'hj) = false) := by
    intro l p
    induction l with
    | nil => simp
    | cons a l ih =>
      by_cases h : p a = true
      · rw [List.takeWhile_cons_of_pos h]
        refine ⟨by simpa using ih.1, fun j hj h2 => ?_, fun hj => ?_⟩
        · cases j with
          | zero => exact h
          | succ j => exact ih.2.1 j (by simpa using hj) (by simpa using h2)
        · simpa using ih.2.2 (by simpa using hj)
      · rw [List.takeWhile_cons_of_neg h]
        exact ⟨by simp, fun j hj h2 => by simp at h2, fun hj => by simpa using h⟩
  obtain ⟨a, b, c⟩ := key (l.drop i) fun y => y.2.2.1 == E l i
  rw [List.length_drop] at a
  refine ⟨?_, by unfold gEnd; omega, fun j h1 h2 => ?_, fun h1 => ?_⟩
  · unfold gEnd
    rw [List.drop_eq_getElem_cons hi, List.takeWhile_cons_of_pos (by rw [E_get hi]; simp)]
    simp
  · unfold gEnd at h2
    have := b (j - i) (by rw [List.length_drop]; omega) (by omega)
    rw [List.getElem_drop] at this
    have e : i + (j - i) = j := by omega
    rw [E_get (by omega)]
    simp only [e] at this
    simpa using this
  · unfold gEnd at h1 ⊢
    have := c (by rw [List.length_drop]; omega)
    rw [List.getElem_drop] at this
    rw [E_get h1]
    simpa using this

abbrev groupV (b : Nat) : Value := .func (.func fn_crash_group_1) #[] #[.pointer (some ⟨b, 0, none⟩)]
theorem group_c {K : Value → HP} (hK : ∀ b h', Ext [] h h' → Blk h' b ty_sl_disk_Entry [.slice s.a s.len s.cap] → K (groupV b) h') : callT Try.prog fn_crash_group #[.slice s.a s.len s.cap] .val K h := by
  refine S_crash_group (a0 := s) K ?_
  unfold F_crash_group
  rw [nw_eq]
  exact hK _ _ ((Ext.refl' [] h).push _) (Blk.new h _ #[.slice s.a s.len s.cap])

theorem group1_c {b : Nat} (kb : Blk h b ty_sl_disk_Entry [.slice s.a s.len s.cap]) (hA : At h (le l s)) (hl : l.length ≤ 1099511627776) {i : Nat} (hi : i < l.length) :
    callT Try.prog fn_crash_group_1 #[.int .i64 (i : Int), .pointer (some ⟨b, 0, none⟩)] (.int .i64) (fun r h' => r = (gEnd l i : Int) ∧ h' = h) h := by
  refine callT_gen fun K hK => S_crash_group_1 (a0 := (i : Int)) (c0 := ⟨b, 0, none⟩) K ?_
  unfold F_crash_group_1
  have l1 := rsn_len hA
  obtain ⟨g1, g2, g3, g4⟩ := gEnd_spec hi
  refine jn_in fun J hJ => ?_
  refine lfp_invh (I := fun m σ h' => ∃ j : Nat, σ = ((j : Int), ()) ∧ i ≤ j ∧ j ≤ gEnd l i ∧ h' = h ∧ m = l.length - j) ⟨_, i, rfl, by omega, by omega, rfl, rfl⟩ ?_
  rintro m σ h2 X ⟨j, rfl, hij, hj, rfl, em⟩ hX
  simp only
  have fin : j = gEnd l i → J ((j : Int), ()) h2 := fun e => hJ _ _ (hK _ _ ⟨by rw [e], rfl⟩)
  rw [ld_sl (i := 0) kb rfl]
  by_cases hlt : j < l.length
  · rw [show decide ((j : Int) < (s.len : Int)) = true by rw [l1]; exact dlt_t hlt, brB_true, ld_sl (i := 0) kb rfl]
    refine rdEp hA hlt ?_
    rw [ld_sl (i := 0) kb rfl]
    refine rdEp hA hi ?_
    by_cases e : j < gEnd l i
    · rw [show (E l j == E l i) = true by simp [g3 j hij e], brB_true, inc_i (show j < 4611686018427387904 by omega)]
      exact hX _ _ _ ⟨j + 1, rfl, by omega, by omega, rfl, rfl⟩ (by omega)
    · have e2 : j = gEnd l i := by omega
      rw [show (E l j == E l i) = false by simp; rw [e2]; exact g4 (by omega), brB_false]
      exact fin e2
  · rw [show decide ((j : Int) < (s.len : Int)) = false by rw [l1]; exact dlt_f hlt, brB_false]
    exact fin (by omega)
theorem groupF {b : Nat} (kb : Blk h b ty_sl_disk_Entry [.slice s.a s.len s.cap]) (hA : At h (le l s)) (hl : l.length ≤ 1099511627776) {i : Nat} (hi : i < l.length) :
    callF Try.prog (groupV b) #[.int .i64 (i : Int)] (.int .i64) (fun r h' => r = (gEnd l i : Int) ∧ h' = h) h := callF_func (group1_c kb hA hl hi)

/-! ### slices of truths -/

theorem any_contains (c : List Bool) (v : Bool) : c.any (fun x => v == x) = c.contains v := by
  rw [List.contains_eq_any_beq]
theorem contains_bool (hA : At h (lb k s)) (hl : k.length ≤ 1099511627776) (v : Bool) : callT Try.prog fn_slices_Contains_bool_bool #[.slice s.a s.len s.cap, .bool v] .bool (fun r h' => r = k.contains v ∧ h' = h) h := by
  refine callT_gen fun K hK => S_slices_Contains_bool_bool (a0 := s) (a1 := v) K ?_
  unfold F_slices_Contains_bool_bool
  refine call_of (R := fun r h' => r = fidx (fun x => v == x) k ∧ h' = h) ?_ ?_
  · exact callT_gen fun K hK => S_slices_Index_bool_bool (a0 := s) (a1 := v) K (w_index (τ := .bool) hA hl (hK _ _ ⟨rfl, rfl⟩))
  · rintro r h' ⟨rfl, rfl⟩
    exact hK _ _ ⟨by rw [fidx_ge, any_contains], rfl⟩

end Go.Proofs.S

/-
  The package crash: valid, Valid, Pairs, fits, apply, Apply: contracts.
-/
set_option linter.unusedVariables false
set_option linter.unusedSimpArgs false
namespace Go.Proofs.S
open Go Go.Sx Go.Proofs Go.Cr

variable {h : Heap} {l : List Ent} {k : List Bool} {m : List Int} {s s2 s3 : Sl} {fr : Fr} {G As : List Asn}

theorem K_ge {k : List Bool} {i : Nat} (h : k.length ≤ i) : K k i = false := by unfold K; rw [List.getD_eq_getElem?_getD, List.getElem?_eq_none h]; rfl
theorem contains_false {k : List Bool} {a b : Nat} (hb : b ≤ k.length) : ((k.take b).drop a).contains false = false ↔ ∀ j, a ≤ j → j < b → K k j = true := by
  rw [← Bool.not_eq_true, List.contains_iff_mem]
  constructor
  · intro h j h1 h2
    cases hk : K k j with
    | true => rfl
    | false =>
      refine absurd (List.mem_iff_getElem.2 ⟨j - a, by simp; omega, ?_⟩) h
      rw [List.getElem_drop, List.getElem_take]
      have e : a + (j - a) = j := by omega
      simp only [e]
      rw [← K_get (by omega)]; exact hk
  · intro h hm
    obtain ⟨i, hi, e⟩ := List.mem_iff_getElem.1 hm
    have hi' : i < min b k.length - a := by simpa using hi
    rw [List.getElem_drop, List.getElem_take, ← K_get (by omega)] at e
    rw [h (a + i) (by omega) (by omega)] at e; cases e
theorem contains_true {k : List Bool} {a : Nat} : (k.drop a).contains true = true ↔ ∃ j, a ≤ j ∧ K k j = true := by
  rw [List.contains_iff_mem]
  constructor
  · intro hm
    obtain ⟨i, hi, e⟩ := List.mem_iff_getElem.1 hm
    have hi' : i < k.length - a := by simpa using hi
    rw [List.getElem_drop, ← K_get (by omega)] at e
    exact ⟨a + i, by omega, e⟩
  · rintro ⟨j, h1, h2⟩
    rcases Nat.lt_or_ge j k.length with q | q
    · refine List.mem_iff_getElem.2 ⟨j - a, by simp; omega, ?_⟩
      rw [List.getElem_drop]
      have e : a + (j - a) = j := by omega
      simp only [e]
      rw [← K_get q]; exact h2
    · rw [K_ge q] at h2; cases h2

theorem valid_c (hA : At h (le l s)) (hB : At h (lb k s2)) (hl : l.length ≤ 1099511627776) (hk : k.length = l.length) (hm : Mono l) :
    callT Try.prog fn_crash_valid #[.slice s.a s.len s.cap, .slice s2.a s2.len s2.cap] .bool (fun r h' => r = vld l k ∧ Ext [] h h') h := by
  refine callT_gen fun K hK => S_crash_valid (a0 := s) (a1 := s2) K ?_
  unfold F_crash_valid
  have l1 := rsn_len hA
  have l2 := rsl_len hB
  have c2 := rsl_cap hB
  refine group_c fun b h1 x1 kb => ?_
  refine jn_mid (fun σ h' => h' = h1 ∧ ∃ a : Nat, σ = ((a : Int), ()) ∧ a ≤ l.length ∧ (∀ j, j < a → Cr.K k j = true) ∧ (∀ j, j < a → a < l.length → E l j < E l a) ∧
    (a < l.length → ¬ ∀ j, a ≤ j → j < gEnd l a → Cr.K k j = true)) ?_ ?_
  · rintro σ h2 ⟨rfl, a, rfl, ha, hall, hlo, hno⟩
    simp only
    by_cases e : a = l.length
    · rw [show ((a : Int) == (s.len : Int)) = true by rw [l1, e]; simp, brB_true]
      refine hK _ _ ⟨?_, x1⟩
      symm; rw [vld_iff]
      exact fun i hi _ j hj _ => hall j (by omega)
    · have ha' : a < l.length := by omega
      obtain ⟨g1, g2, g3, g4⟩ := gEnd_spec ha'
      rw [show ((a : Int) == (s.len : Int)) = false by rw [l1]; simp; omega, brB_false]
      refine callF_of (groupF kb (hA.ext x1) hl ha') ?_
      rintro r hq ⟨er, rfl⟩
      have er : r = (gEnd l a : Int) := er
      subst er
      refine ⟨by omega, by simp only; omega, ?_⟩
      rw [Int.toNat_natCast]
      have hS := rsl_sub (hB.ext x1) (l := gEnd l a) (m := k.length) (by omega) (Nat.le_refl _)
      rw [List.take_length, ← l2] at hS
      refine call_of (contains_bool hS (by simp; omega) true) ?_
      rintro r hq ⟨er, rfl⟩
      have er : r = (k.drop (gEnd l a)).contains true := er
      subst er
      refine hK _ _ ⟨?_, x1⟩
      rw [Bool.eq_iff_iff, Bool.not_eq_true', vld_iff]
      constructor
      · intro hn i hi hki j hj hlt
        have hi2 : i < gEnd l a := by
          rcases Nat.lt_or_ge i (gEnd l a) with q | q
          · exact q
          · have := contains_true.2 ⟨i, q, hki⟩
            rw [hn] at this; cases this
        have hja : j < a := by
          rcases Nat.lt_or_ge j a with q | q
          · exact q
          · exfalso
            rcases Nat.lt_or_ge i a with q2 | q2
            · have := hm i j (by omega) hj; omega
            · have h1 := g3 i q2 hi2
              have h2 := hm a j q hj
              omega
        exact hall j hja
      · intro hv
        cases hc : (k.drop (gEnd l a)).contains true with
        | false => rfl
        | true =>
          exfalso
          obtain ⟨i, h1, h2⟩ := contains_true.1 hc
          have hi : i < l.length := by
            rcases Nat.lt_or_ge i k.length with q | q
            · omega
            · rw [K_ge q] at h2; cases h2
          refine hno ha' fun j h3 h4 => hv i hi h2 j (by omega) ?_
          have e1 := g3 j h3 h4
          have e2 := g4 (by omega)
          have e3 := hm (gEnd l a) i h1 hi
          have e4 := hm a (gEnd l a) (by omega) (by omega)
          omega
  · intro J hJ
    refine lfp_invh (I := fun μ σ h' => ∃ a : Nat, σ = ((a : Int), ()) ∧ a ≤ l.length ∧ (∀ j, j < a → Cr.K k j = true) ∧ (∀ j, j < a → a < l.length → E l j < E l a) ∧ h' = h1 ∧ μ = l.length - a) ⟨_, 0, rfl, by omega, fun j hj => by omega, fun j hj => by omega, rfl, rfl⟩ ?_
    rintro μ σ h2 X ⟨a, rfl, ha, hall, hlo, rfl, em⟩ hX
    simp only
    by_cases ha' : a < l.length
    · obtain ⟨g1, g2, g3, g4⟩ := gEnd_spec ha'
      rw [show decide ((a : Int) < (s.len : Int)) = true by rw [l1]; exact dlt_t ha', brB_true]
      refine callF_of (groupF kb (hA.ext x1) hl ha') ?_
      rintro r hq ⟨er, rfl⟩
      have er : r = (gEnd l a : Int) := er
      subst er
      refine ⟨by omega, by simp only; omega, by omega, by omega, ?_⟩
      rw [Int.toNat_natCast, Int.toNat_natCast]
      have hS := rsl_sub (hB.ext x1) (l := a) (m := gEnd l a) (by omega) (by omega)
      refine call_of (contains_bool hS (by simp; omega) false) ?_
      rintro r hq ⟨er, rfl⟩
      have er : r = ((k.take (gEnd l a)).drop a).contains false := er
      subst er
      cases hc : ((k.take (gEnd l a)).drop a).contains false with
      | true =>
        simp only [Bool.not_true, brB_false]
        refine hJ _ _ ⟨rfl, a, rfl, ha, hall, hlo, fun _ hh => ?_⟩
        rw [(contains_false (by omega)).2 hh] at hc; cases hc
      | false =>
        simp only [Bool.not_false, brB_true]
        have hg := (contains_false (by omega)).1 hc
        refine callF_of (groupF kb (hA.ext x1) hl ha') ?_
        rintro r hq ⟨er, rfl⟩
        have er : r = (gEnd l a : Int) := er
        subst er
        refine hX _ _ _ ⟨gEnd l a, rfl, g2, fun j hj => ?_, fun j hj hlt => ?_, rfl, rfl⟩ (by omega)
        · rcases Nat.lt_or_ge j a with q | q
          · exact hall j q
          · exact hg j q hj
        · have e2 := g4 hlt
          have e4 := hm a (gEnd l a) (by omega) (by omega)
          rcases Nat.lt_or_ge j a with q | q
          · have := hm j a (by omega) (by omega); omega
          · have := g3 j q hj; omega
    · rw [show decide ((a : Int) < (s.len : Int)) = false by rw [l1]; exact dlt_f ha', brB_false]
      exact hJ _ _ ⟨rfl, a, rfl, ha, hall, hlo, fun q => absurd q ha'⟩

theorem Valid_c (hA : At h (le l s)) (hB : At h (lb k s2)) (hl : l.length ≤ 1099511627776) :
    callT Try.prog fn_crash_Valid #[.slice s.a s.len s.cap, .slice s2.a s2.len s2.cap] (.tup (.cons .bool (.cons (.int .i64) .nil))) (fun r h' => r = ((validP l k).1, (validP l k).2, ()) ∧ Ext [] h h') h := by
  refine callT_gen fun K hK => S_crash_Valid (a0 := s) (a1 := s2) K ?_
  unfold F_crash_Valid
  refine call_of (check_c hA hB hl) ?_
  rintro r h1 ⟨er, x1⟩
  have er : r = checkC l k := er
  subst er
  unfold validP at hK
  by_cases h0 : checkC l k = 0
  · rw [show (checkC l k != 0) = false by simp [h0], brB_false]
    rw [if_pos h0] at hK
    have hr : rightL l = true ∧ k.length = l.length := by
      unfold checkC at h0; split at h0
      · rename_i hr; split at h0
        · exact ⟨hr, by assumption⟩
        · simp at h0
      · simp at h0
    refine call_of (valid_c (hA.ext x1) (hB.ext x1) hl hr.2 (right_mono hr.1)) ?_
    rintro _ h2 ⟨rfl, x2⟩
    exact hK _ _ ⟨rfl, x1.nil_trans x2⟩
  · rw [show (checkC l k != 0) = true by simp [h0], brB_true]
    rw [if_neg h0] at hK
    exact hK _ _ ⟨rfl, x1⟩

theorem check_right (h0 : checkC l k = 0) : rightL l = true ∧ k.length = l.length := by
  unfold checkC at h0; split at h0
  · rename_i hr; split at h0
    · exact ⟨hr, by assumption⟩
    · simp at h0
  · simp at h0

theorem pairs_c (hA : At h (le l s)) (hB : At h (lb k s2)) (hl : l.length ≤ 1099511627776) :
    callT Try.prog fn_crash_Pairs #[.slice s.a s.len s.cap, .slice s2.a s2.len s2.cap] (.tup (.cons .bool (.cons (.int .i64) .nil))) (fun r h' => r = ((validP l k).1, (validP l k).2, ()) ∧ Ext [] h h') h := by
  refine callT_gen fun K hK => S_crash_Pairs (a0 := s) (a1 := s2) K ?_
  unfold F_crash_Pairs
  have l1 := rsn_len hA
  have l2 := rsl_len hB
  refine call_of (check_c hA hB hl) ?_
  rintro r h1 ⟨er, x1⟩
  have er : r = checkC l k := er
  subst er
  unfold validP at hK
  by_cases h0 : checkC l k = 0
  · rw [show (checkC l k != 0) = false by simp [h0], brB_false]
    rw [if_pos h0] at hK
    obtain ⟨hr, hk⟩ := check_right h0
    have hm := right_mono hr
    have st := (Hs.start h [le l s, lb k s2] (by simp [hA, hB])).ext x1
    refine jn_mid (fun σ h' => Ext [] h h' ∧ σ.2.1 = vld l k) ?_ ?_
    · rintro σ h2 ⟨x2, e⟩
      simp only [e]
      exact hK _ _ ⟨rfl, x2⟩
    · intro J hJ
      refine lfp_invh (I := fun μ σ h' => ∃ i : Nat, σ = ((i : Int), true, ()) ∧ i ≤ l.length ∧ (∀ a, a < i → Cr.K k a = true → ∀ j, j < l.length → E l j < E l a → Cr.K k j = true) ∧ Hs [([], h)] [le l s, lb k s2] [] h' ∧ μ = l.length - i)
        ⟨_, 0, rfl, by omega, fun a ha => by omega, st, rfl⟩ ?_
      clear st
      rintro μ σ h2 X ⟨i, rfl, hi, hn, st, em⟩ hX
      simp only
      by_cases hlt : i < l.length
      · rw [show decide ((i : Int) < (s.len : Int)) = true by rw [l1]; exact dlt_t hlt, brB_true, inc_i (show i < 4611686018427387904 by omega)]
        -- the entry is all right
        refine jn_mid (fun σ h' => σ = (true, ()) ∧ (Cr.K k i = true → ∀ j, j < l.length → E l j < E l i → Cr.K k j = true) ∧ Hs [([], h)] [le l s, lb k s2] [] h') ?_ ?_
        · rintro σ h3 ⟨rfl, hc, st⟩
          refine hX _ _ _ ⟨i + 1, rfl, by omega, fun a ha => ?_, st, rfl⟩ (by omega)
          rcases Nat.lt_or_ge a i with q | q
          · exact hn a q
          · have : a = i := by omega
            subst this; exact hc
        · intro J2 hJ2
          refine Hs.rdEnt st (st.fz 0 rfl) hlt fun b h3 st => ?_
          refine rdE (τ := .bool) (st.fz 1 rfl) (show i < k.length by omega) ?_
          rw [← K_get (show i < k.length by omega)]
          cases hki : Cr.K k i with
          | false =>
            simp only [Bool.not_false, brB_true]
            exact hJ2 _ _ ⟨rfl, (fun h => by rw [hki] at h; cases h), st.drop 0 rfl⟩
          | true =>
            simp only [Bool.not_true, brB_false]
            refine lfp_invh (I := fun μ σ h' => ∃ j : Nat, σ = ((j : Int), true, ()) ∧ j ≤ l.length ∧ (∀ a, a < j → E l a < E l i ∧ Cr.K k a = true) ∧ Hs [([], h)] [le l s, lb k s2] [cE b l[i]] h' ∧ μ = l.length - j)
              ⟨_, 0, rfl, by omega, fun a ha => by omega, st, rfl⟩ ?_
            clear st
            rintro μ σ h4 X2 ⟨j, rfl, hj, hn2, st, em⟩ hX2
            simp only
            by_cases hlt2 : j < l.length
            · rw [show decide ((j : Int) < (s.len : Int)) = true by rw [l1]; exact dlt_t hlt2, brB_true, inc_i (show j < 4611686018427387904 by omega)]
              refine Hs.rdEnt st (st.fz 0 rfl) hlt2 fun b2 h5 st => ?_
              simp only [addr_add, Nat.zero_add]
              rw [st.ldi 1 2 rfl rfl, st.ldi 0 2 rfl rfl, ← E_get hlt, ← E_get hlt2]
              by_cases hge : E l j ≥ E l i
              · rw [decide_eq_true hge, brB_true]
                refine hJ2 _ _ ⟨rfl, fun _ a ha hla => (hn2 a ?_).2, (st.drop 1 rfl).drop 0 rfl⟩
                rcases Nat.lt_or_ge a j with q | q
                · exact q
                · have := hm j a q ha; omega
              · rw [decide_eq_false hge, brB_false]
                refine rdE (τ := .bool) (st.fz 1 rfl) (show j < k.length by omega) ?_
                rw [← K_get (show j < k.length by omega)]
                cases hkj : Cr.K k j with
                | false =>
                  simp only [Bool.not_false, brB_true]
                  refine hJ _ _ ⟨st.frame (by simp), ?_⟩
                  simp only
                  symm; rw [← Bool.not_eq_true, vld_iff]
                  intro hv
                  have := hv i hlt hki j hlt2 (by omega)
                  rw [hkj] at this; cases this
                | true =>
                  simp only [Bool.not_true, brB_false]
                  refine hX2 _ _ _ ⟨j + 1, rfl, by omega, fun a ha => ?_, st.drop 1 rfl, rfl⟩ (by omega)
                  rcases Nat.lt_or_ge a j with q | q
                  · exact hn2 a q
                  · have : a = j := by omega
                    subst this; exact ⟨by omega, hkj⟩
            · rw [show decide ((j : Int) < (s.len : Int)) = false by rw [l1]; exact dlt_f hlt2, brB_false]
              exact hJ2 _ _ ⟨rfl, fun _ a ha hla => (hn2 a (by omega)).2, st.drop 0 rfl⟩
      · rw [show decide ((i : Int) < (s.len : Int)) = false by rw [l1]; exact dlt_f hlt, brB_false]
        refine hJ _ _ ⟨st.frame (by simp), ?_⟩
        symm; rw [vld_iff]
        exact fun a ha hka j hj hla => hn a (by omega) hka j hj hla
  · rw [show (checkC l k != 0) = true by simp [h0], brB_true]
    rw [if_neg h0] at hK
    exact hK _ _ ⟨rfl, x1⟩

/-! ### fits -/

theorem fits1_c {b : Nat} (kb : Blk h b ty_sl_bitword_Word [.slice s2.a s2.len s2.cap]) (x : Ent) :
    callT Try.prog fn_crash_fits_1 #[.agg #[.int .i64 x.1, .int .u32 x.2.1, .int .i64 x.2.2.1], .pointer (some ⟨b, 0, none⟩)] .bool (fun r h' => r = decide (x.1 ≥ (s2.len : Int)) ∧ Ext [] h h') h := by
  refine callT_gen fun K hK => S_crash_fits_1 (a0 := x) (c0 := ⟨b, 0, none⟩) K ?_
  unfold F_crash_fits_1
  have st := Hs.start h [] (by simp)
  refine st.nw fun b0 h1 st => ?_
  rw [st.ldi 0 0 rfl rfl]
  have kb' := kb.ext (st.frame (by simp)) (by simp)
  rw [ld_sl (i := 0) kb' rfl]
  exact hK _ _ ⟨rfl, st.frame (by simp)⟩

theorem indexFunc_ent {fv : Value} {p : Ent → Bool} (hA : At h (le l s)) (hl : l.length ≤ 1099511627776) (hp : PredOkN Try.prog tE fv p l h) :
    callT Try.prog fn_slices_IndexFunc_disk_Entry_disk_Entry #[.slice s.a s.len s.cap, fv] (.int .i64) (fun r h' => r = fidx p l ∧ Ext [] h h') h :=
  callT_gen fun K hK => S_slices_IndexFunc_disk_Entry_disk_Entry (a0 := s) (a1 := fv) K (w_indexFuncN (τ := tE) hA hl hp fun h' x => hK _ _ ⟨rfl, x⟩)
theorem containsFunc_ent {fv : Value} {p : Ent → Bool} (hA : At h (le l s)) (hl : l.length ≤ 1099511627776) (hp : PredOkN Try.prog tE fv p l h) :
    callT Try.prog fn_slices_ContainsFunc_disk_Entry_disk_Entry #[.slice s.a s.len s.cap, fv] .bool (fun r h' => r = l.any p ∧ Ext [] h h') h := by
  refine callT_gen fun K hK => S_slices_ContainsFunc_disk_Entry_disk_Entry (a0 := s) (a1 := fv) K ?_
  unfold F_slices_ContainsFunc_disk_Entry_disk_Entry
  refine call_of (indexFunc_ent hA hl hp) ?_
  rintro r h' ⟨er, x⟩
  have er : r = fidx p l := er
  subst er
  exact hK _ _ ⟨fidx_ge _ _, x⟩

theorem fits_c (hA : At h (le l s)) (hW : At h (lw m s2)) (hl : l.length ≤ 1099511627776) :
    callT Try.prog fn_crash_fits #[.slice s2.a s2.len s2.cap, .slice s.a s.len s.cap] .bool (fun r h' => r = fitsP m.length l ∧ Ext [] h h') h := by
  refine callT_gen fun K hK => S_crash_fits (a0 := s2) (a1 := s) K ?_
  unfold F_crash_fits
  rw [nw_eq]
  have x0 : Ext [] h (h.push (.cells #[(.slice s2.a s2.len s2.cap)] ty_sl_bitword_Word)) := (Ext.refl' [] h).push _
  have kb : Blk _ h.size ty_sl_bitword_Word [.slice s2.a s2.len s2.cap] := Blk.new h _ #[.slice s2.a s2.len s2.cap]
  refine call_of (containsFunc_ent (p := fun x => decide (x.1 ≥ (m.length : Int))) (hA.ext x0) hl fun x _ h' x' => ?_) ?_
  · refine callF_func (call_of (fits1_c (kb.ext x' (by simp)) x) fun r h2 ⟨e, e2⟩ => ⟨?_, e2⟩)
    have e : r = decide (x.1 ≥ (s2.len : Int)) := e
    rw [e, rsl_len hW]
  · rintro _ h2 ⟨rfl, x2⟩
    exact hK _ _ ⟨rfl, x0.nil_trans x2⟩

/-! ### copies -/

theorem Hs.clone_bool {K : Sl → HP} (st : Hs fr G As h) (hy : At h (lb k s)) (hlen : k.length ≤ 1099511627776) (hK : ∀ s' h', Hs fr G (As ++ [ob k s']) h' → K s' h') :
    callT Try.prog fn_slices_Clone_bool_bool #[.slice s.a s.len s.cap] .sl K h :=
  S_slices_Clone_bool_bool (a0 := s) K (st.clone (τ := .bool) (by_ := 1) hy leaf_bool (by omega) (by decide) hK)
theorem Hs.clone_word {K : Sl → HP} (st : Hs fr G As h) (hy : At h (lw m s)) (hlen : m.length ≤ 1099511627776) (hK : ∀ s' h', Hs fr G (As ++ [ow m s']) h' → K s' h') :
    callT Try.prog fn_slices_Clone_bitword_Word_bitword_Word #[.slice s.a s.len s.cap] .sl K h :=
  S_slices_Clone_bitword_Word_bitword_Word (a0 := s) K (st.clone (τ := u32) (by_ := 4) hy leaf_int (by omega) (by decide) hK)

/-! ### apply -/

theorem set_toNat {m : List Int} {x : Int} (h0 : 0 ≤ x) (h1 : x < m.length) : x = ((x.toNat : Nat) : Int) ∧ x.toNat < m.length := by omega

theorem apply_c (hA : At h (le l s)) (hB : At h (lb k s2)) (hW : At h (lw m s3)) (hl : l.length ≤ 1099511627776) (hm : m.length ≤ 1099511627776) (hk : k.length = l.length) (hr : rightL l = true) (hf : fitsP m.length l = true) :
    callT Try.prog fn_crash_apply #[.slice s3.a s3.len s3.cap, .slice s.a s.len s.cap, .slice s2.a s2.len s2.cap] .sl (fun s' h' => New h.size h' (ow (applyP m l k) s') ∧ Ext [] h h') h := by
  refine callT_gen fun K hK => S_crash_apply (a0 := s3) (a1 := s) (a2 := s2) K ?_
  unfold F_crash_apply
  have l1 := rsn_len hA
  have st := Hs.start h [le l s, lb k s2] (by simp [hA, hB])
  refine Hs.clone_word st hW hm fun r0 h1 st => ?_
  refine lfp_invh (I := fun μ σ h' => ∃ i : Nat, σ = ((i : Int), ()) ∧ i ≤ l.length ∧ Hs [([], h)] [le l s, lb k s2] [ow (applyP m (l.take i) (k.take i)) r0] h' ∧ μ = l.length - i) ⟨_, 0, rfl, by omega, by simpa [applyP] using st, rfl⟩ ?_
  clear st
  rintro μ σ h2 X ⟨i, rfl, hi, st, em⟩ hX
  simp only
  by_cases hlt : i < l.length
  · rw [show decide ((i : Int) < (s.len : Int)) = true by rw [l1]; exact dlt_t hlt, brB_true, inc_i (show i < 4611686018427387904 by omega)]
    refine Hs.rdEnt st (st.fz 0 rfl) hlt fun b h3 st => ?_
    refine rdE (τ := .bool) (st.fz 1 rfl) (show i < k.length by omega) ?_
    rw [← K_get (show i < k.length by omega)]
    refine jn_mid (fun σ h' => Hs [([], h)] [le l s, lb k s2] [ow (applyP m (l.take (i + 1)) (k.take (i + 1))) r0] h') ?_ ?_
    · rintro σ h4 st
      exact hX _ _ _ ⟨i + 1, rfl, by omega, st, rfl⟩ (by omega)
    · intro J hJ
      have hbl := right_bl hr (List.getElem_mem hlt)
      have hfl : l[i].1 < m.length := by
        unfold fitsP at hf
        simp only [Bool.not_eq_true', List.any_eq_false, decide_eq_true_eq] at hf
        have := hf _ (List.getElem_mem hlt); omega
      rw [applyP_step hlt hk] at hJ
      cases hki : Cr.K k i with
      | true =>
        rw [if_pos hki] at hJ
        rw [brB_true]
        simp only [addr_add, Nat.zero_add]
        rw [st.ldi 1 0 rfl rfl, st.ldi 1 1 rfl rfl]
        obtain ⟨e1, e2⟩ := set_toNat (m := applyP m (l.take i) (k.take i)) hbl.1 (by rw [applyP_len]; exact hfl)
        rw [e1]
        refine st.wrE (τ := u32) 0 rfl e2 _ fun h4 st => ?_
        exact hJ _ _ (st.drop 1 rfl)
      | false =>
        rw [if_neg (by simp [hki])] at hJ
        rw [brB_false]
        exact hJ _ _ (st.drop 1 rfl)
  · rw [show decide ((i : Int) < (s.len : Int)) = false by rw [l1]; exact dlt_f hlt, brB_false]
    rw [List.take_of_length_le (show l.length ≤ i by omega), List.take_of_length_le (show k.length ≤ i by omega)] at st
    exact hK _ _ ⟨st.res (by simp) 0 rfl, st.frame (by simp)⟩

theorem Apply_c (hA : At h (le l s)) (hB : At h (lb k s2)) (hW : At h (lw m s3)) (hl : l.length ≤ 1099511627776) (hm : m.length ≤ 1099511627776) :
    callT Try.prog fn_crash_Apply #[.slice s3.a s3.len s3.cap, .slice s.a s.len s.cap, .slice s2.a s2.len s2.cap] (.tup (.cons .sl (.cons (.int .i64) .nil)))
      (fun r h' => ∃ s', r = (s', (applyC m l k).2, ()) ∧ New h.size h' (ow (applyC m l k).1 s') ∧ Ext [] h h') h := by
  refine callT_gen fun K hK => S_crash_Apply (a0 := s3) (a1 := s) (a2 := s2) K ?_
  unfold F_crash_Apply
  refine call_of (check_c hA hB hl) ?_
  rintro r h1 ⟨er, x1⟩
  have er : r = checkC l k := er
  subst er
  unfold applyC at hK
  by_cases h0 : checkC l k = 0
  · rw [show (checkC l k != 0) = false by simp [h0], brB_false]
    rw [if_pos h0] at hK
    obtain ⟨hr, hk⟩ := check_right h0
    refine call_of (fits_c (hA.ext x1) (hW.ext x1) hl) ?_
    rintro _ h2 ⟨rfl, x2⟩
    have x2 := x1.nil_trans x2
    cases hf : fitsP m.length l with
    | false => simp only [Bool.not_false, brB_true]; exact hK _ _ ⟨⟨none, 0, 0⟩, by simp [hf], by rw [hf]; exact osl_nil _ _, x2⟩
    | true =>
      simp only [Bool.not_true, brB_false]
      refine call_of (apply_c (hA.ext x2) (hB.ext x2) (hW.ext x2) hl hm hk hr hf) ?_
      rintro s' h3 ⟨n, x3⟩
      exact hK _ _ ⟨s', by simp [hf], by rw [hf]; exact n.mono x2.1, x2.nil_trans x3⟩
  · rw [show (checkC l k != 0) = true by simp [h0], brB_true]
    rw [if_neg h0] at hK
    exact hK _ _ ⟨⟨none, 0, 0⟩, rfl, osl_nil _ _, x1⟩

end Go.Proofs.S

/-
  The package crash: Count, fill, next, All, Drop: contracts.
-/
set_option linter.unusedVariables false
set_option linter.unusedSimpArgs false
namespace Go.Proofs.S
open Go Go.Sx Go.Proofs Go.Cr

variable {h : Heap} {l : List Ent} {k : List Bool} {m : List Int} {s s2 s3 : Sl} {fr : Fr} {G As : List Asn}

theorem gEnd_grp {i : Nat} (hi : i < l.length) : gEnd l i = i + grp (l.drop i) ∧ l.drop (gEnd l i) = (l.drop i).drop (grp (l.drop i)) := by
  have e : gEnd l i = i + grp (l.drop i) := by
    unfold gEnd grp
    rw [List.drop_eq_getElem_cons hi, E_get hi]
  exact ⟨e, by rw [e, List.drop_drop]⟩
theorem mono_drop (hm : Mono l) (i : Nat) : Mono (l.drop i) := fun a b hab hb => by
  have hb' : b < l.length - i := by simpa using hb
  have e1 : ∀ c, c < (l.drop i).length → E (l.drop i) c = E l (i + c) := fun c hc => by
    have hc' : c < l.length - i := by simpa using hc
    rw [E_get hc, E_get (show i + c < l.length by omega), List.getElem_drop]
  rw [e1 a (by omega), e1 b hb]
  exact hm _ _ (by omega) (by omega)

theorem count_c (hA : At h (le l s)) (hl : l.length ≤ 1099511627776) :
    callT Try.prog fn_crash_Count #[.slice s.a s.len s.cap] (.tup (.cons (.int .i64) (.cons (.int .i64) .nil))) (fun r h' => r = ((countP l).1, (countP l).2, ()) ∧ Ext [] h h') h := by
  refine callT_gen fun K hK => S_crash_Count (a0 := s) K ?_
  unfold F_crash_Count
  have l1 := rsn_len hA
  refine call_of (right_c hA hl) ?_
  rintro _ h1 ⟨rfl, x1⟩
  unfold countP at hK
  cases hr : rightL l with
  | false =>
    rw [if_neg (by simp [hr])] at hK
    simp only [Bool.not_false, brB_true]; exact hK _ _ ⟨rfl, x1⟩
  | true =>
    rw [if_pos hr] at hK
    simp only [Bool.not_true, brB_false]
    have hm := right_mono hr
    refine group_c fun b h2 x2 kb => ?_
    have x2 := x1.nil_trans x2
    refine lfp_invh (I := fun μ σ h' => ∃ a n : Nat, σ = ((a : Int), (n : Int), 0, 0, ()) ∧ a ≤ l.length ∧ 1 ≤ n ∧ n ≤ 2 ^ 30 ∧ min (n + (valids (l.drop a)).length - 1) (2 ^ 30) = min (valids l).length (2 ^ 30) ∧ h' = h2 ∧ μ = l.length - a)
      ⟨_, 0, 1, rfl, by omega, by omega, by decide, by simp, rfl, rfl⟩ ?_
    rintro μ σ h' X ⟨a, n, rfl, ha, hn, hn2, hc, rfl, em⟩ hX
    simp only
    by_cases hlt : a < l.length
    · rw [show decide ((a : Int) < (s.len : Int)) = true by rw [l1]; exact dlt_t hlt, brB_true]
      obtain ⟨g1, g2, g3, g4⟩ := gEnd_spec hlt
      obtain ⟨e1, e2⟩ := gEnd_grp hlt
      refine callF_of (groupF kb (hA.ext x2) hl hlt) ?_
      rintro r hq ⟨er, rfl⟩
      have er : r = (gEnd l a : Int) := er
      subst er
      have hmd := mono_drop hm a
      have hstep : (2 ^ grp (l.drop a) > 2 ^ 30 → min (n + (valids (l.drop a)).length - 1) (2 ^ 30) = 2 ^ 30) ∧
          min (min (n + 2 ^ grp (l.drop a) - 1) (2 ^ 30) + (valids (l.drop (gEnd l a))).length - 1) (2 ^ 30) = min (n + (valids (l.drop a)).length - 1) (2 ^ 30) := by
        rw [e2]
        have hd := List.drop_eq_getElem_cons hlt
        rw [hd] at hmd ⊢
        exact cnt_step hmd n hn
      have ew : IntKind.wrap .i64 ((gEnd l a : Int) - (a : Int)) = ((grp (l.drop a) : Nat) : Int) := by
        rw [wrap_i64 (by omega) (by omega)]; omega
      rw [ew]
      by_cases hg : grp (l.drop a) > 30
      · rw [decide_eq_true (show ((grp (l.drop a) : Nat) : Int) > 30 by omega), brB_true]
        refine hK _ _ ⟨?_, x2⟩
        unfold cntP
        rw [← hc, hstep.1 (Nat.pow_lt_pow_right (by decide) hg)]; rfl
      · rw [decide_eq_false (show ¬ ((grp (l.drop a) : Nat) : Int) > 30 by omega), brB_false]
        refine ⟨by omega, ?_⟩
        refine callF_of (groupF kb (hA.ext x2) hl hlt) ?_
        rintro r hq ⟨er, rfl⟩
        have er : r = (gEnd l a : Int) := er
        subst er
        have hp1 := Nat.two_pow_pos (grp (l.drop a))
        have hp2 : 2 ^ grp (l.drop a) ≤ 2 ^ 30 := Nat.pow_le_pow_right (by decide) (by omega)
        have e30 : (2 : Nat) ^ 30 = 1073741824 := by decide
        rw [e30] at hp2 hn2 hc hstep
        have ep : (1 : Int) * 2 ^ (min (((grp (l.drop a) : Nat) : Int)).toNat 64) = ((2 ^ grp (l.drop a) : Nat) : Int) := by
          rw [Int.toNat_natCast, Nat.min_eq_left (by omega), Int.one_mul]; simp
        rw [ep]
        generalize 2 ^ grp (l.drop a) = p at *
        have ev : (if (1073741824 : Int) < (IntKind.wrap .i64 ((IntKind.wrap .i64 ((n : Int) + (IntKind.wrap .i64 (p : Int)))) - (1 : Int))) then (1073741824 : Int) else (IntKind.wrap .i64 ((IntKind.wrap .i64 ((n : Int) + (IntKind.wrap .i64 (p : Int)))) - (1 : Int)))) = ((min (n + p - 1) 1073741824 : Nat) : Int) := by
          rw [wrap_i64 (x := (p : Int)) (by omega) (by omega), wrap_i64 (x := (n : Int) + (p : Int)) (by omega) (by omega), wrap_i64 (x := (n : Int) + (p : Int) - 1) (by omega) (by omega)]
          split <;> omega
        rw [ev]
        refine hX _ _ _ ⟨gEnd l a, _, rfl, g2, by omega, by rw [e30]; omega, ?_, rfl, rfl⟩ (by omega)
        rw [e30, ← hc]; exact hstep.2
    · rw [show decide ((a : Int) < (s.len : Int)) = false by rw [l1]; exact dlt_f hlt, brB_false]
      refine hK _ _ ⟨?_, x2⟩
      rw [List.drop_eq_nil_of_le (by omega)] at hc
      have e0 : (valids ([] : List Ent)).length = 1 := rfl
      rw [e0] at hc
      unfold cntP
      rw [← hc, show n + 1 - 1 = n by omega, Nat.min_eq_left hn2]

/-! ### the next set -/

theorem take_K {i j : Nat} (hj : j < i) : K (k.take i) j = K k j := by unfold Cr.K; rw [List.getD_eq_getElem?_getD, List.getD_eq_getElem?_getD, List.getElem?_take_of_lt hj]

theorem Hs.fill {K : Bool → HP} (st : Hs fr G As h) (g : Nat) (hg : G[g]? = some (le l s)) (hl : l.length ≤ 1099511627776) (hm : Mono l) {i : Nat} (hi : i < l.length) (hk : k.length = l.length) (h0 : Cr.K k i = false)
    (kt : Nat) (hkt : As[kt]? = some (ob (cnd l k i) s2)) (hK : ∀ h', Hs fr G As h' → K (okAt l k i) h') :
    callT Try.prog fn_crash_fill #[.slice s.a s.len s.cap, .slice s2.a s2.len s2.cap, .int .i64 (i : Int)] .bool K h := by
  refine S_crash_fill (a0 := s) (a1 := s2) (a2 := (i : Int)) K ?_
  unfold F_crash_fill
  have hcl := cnd_len hk hi
  have l2 := osl_len (st.own kt hkt)
  refine lfp_invh (I := fun μ σ h' => ∃ (j : Nat) (g : Int), σ = ((j : Int), g, ()) ∧ j ≤ i + 1 ∧ (j = i + 1 → g = E l i) ∧ Hs fr G As h' ∧ μ = i + 1 - j) ⟨_, 0, -1, rfl, by omega, fun h => by omega, st, rfl⟩ ?_
  clear st
  rintro μ σ h2 X ⟨j, gv, rfl, hj, hgv, st, em⟩ hX
  simp only
  by_cases hlt : j ≤ i
  · rw [decide_eq_true (show (j : Int) ≤ (i : Int) by omega), brB_true, inc_i (show j < 4611686018427387904 by omega)]
    refine rdE (τ := .bool) (st.own kt hkt).rsl (show j < (cnd l k i).length by omega) ?_
    rw [← K_get (show j < (cnd l k i).length by omega)]
    refine jn_in fun J hJ => ?_
    have fin : ∀ gv', (j = i → gv' = E l i) → ∀ h', Hs fr G As h' → J (gv', ()) h' := fun gv' hv h' st => hJ _ _ (hX _ _ _ ⟨j + 1, gv', rfl, by omega, fun e => hv (by omega), st, rfl⟩ (by omega))
    cases hkj : Cr.K (cnd l k i) j with
    | true =>
      rw [brB_true]
      refine rdEp (st.fz g hg) (show j < l.length by omega) ?_
      exact fin _ (fun e => by rw [e]) _ st
    | false =>
      rw [brB_false]
      exact fin _ (fun e => by rw [e, cnd_at hk hi] at hkj; cases hkj) _ st
  · rw [decide_eq_false (show ¬ (j : Int) ≤ (i : Int) by omega), brB_false]
    have eg := hgv (by omega)
    subst eg
    clear hgv hX em hlt hj X
    refine lfp_invh (I := fun μ σ h' => ∃ j : Nat, σ = ((j : Int), false, ()) ∧ j ≤ l.length ∧ (∀ a, a < j → a < i → E l a < E l i → Cr.K k a = true) ∧ Hs fr G As h' ∧ μ = l.length - j) ⟨_, 0, rfl, by omega, fun a h => by omega, st, rfl⟩ ?_
    clear st
    rintro μ σ h2 X ⟨j, rfl, hj, hall, st, em⟩ hX
    simp only
    by_cases hlt : j < l.length
    · rw [show decide ((j : Int) < (s2.len : Int)) = true by rw [l2, hcl]; exact dlt_t hlt, brB_true, inc_i (show j < 4611686018427387904 by omega)]
      refine jn_in fun J hJ => ?_
      have fin : (j < i → E l j < E l i → Cr.K k j = true) → ∀ h', Hs fr G As h' → J (false, ()) h' := fun hv h' st => hJ _ _ (hX _ _ _ ⟨j + 1, rfl, by omega, fun a ha hai hle => by
        rcases Nat.lt_or_ge a j with q | q
        · exact hall a q hai hle
        · have : a = j := by omega
          subst this; exact hv hai hle, st, rfl⟩ (by omega))
      by_cases hji : (j : Int) > (i : Int)
      · rw [decide_eq_true hji, brB_true]
        refine rdEp (st.fz g hg) hlt ?_
        have hmj := hm i j (by omega) hlt
        refine st.wrSame (τ := .bool) kt hkt (show j < (cnd l k i).length by omega) ?_ fun h3 st => fin (fun h => absurd h (by omega)) h3 st
        rw [← K_get (show j < (cnd l k i).length by omega), cnd_hi hk hi (by omega)]
        exact decide_eq_false (show ¬ E l j < E l i by omega)
      · rw [decide_eq_false hji, brB_false]
        refine rdEp (st.fz g hg) hlt ?_
        by_cases he : E l j < E l i
        · rw [decide_eq_true he, brB_true]
          refine rdE (τ := .bool) (st.own kt hkt).rsl (show j < (cnd l k i).length by omega) ?_
          have hji' : j < i := by
            rcases Nat.lt_or_ge j i with q | q
            · exact q
            · have : j = i := by omega
              subst this; omega
          rw [← K_get (show j < (cnd l k i).length by omega), cnd_lo hk hi hji']
          cases hkj : Cr.K k j with
          | true => simp only [Bool.not_true, brB_false]; exact fin (fun _ _ => hkj) _ st
          | false =>
            simp only [Bool.not_false, brB_true]
            have e : okAt l k i = false := by
              rw [← Bool.not_eq_true, okAt_iff]
              intro hh
              have := hh.2 j hji' he
              rw [hkj] at this; cases this
            have := hK _ st
            rw [e] at this; exact this
        · rw [decide_eq_false he, brB_false]; exact fin (fun _ h => absurd h he) _ st
    · rw [show decide ((j : Int) < (s2.len : Int)) = false by rw [l2, hcl]; exact dlt_f hlt, brB_false]
      have e : okAt l k i = true := okAt_iff.2 ⟨h0, fun a ha => hall a (by omega) ha⟩
      have := hK _ st
      rw [e] at this; exact this

theorem nextI_succ_f {i : Nat} (h : okAt l k i = false) : nextI l k (i + 1) = nextI l k i := by rw [nextI, if_neg (by simp [h])]
theorem nextI_succ_t {i : Nat} (h : okAt l k i = true) : nextI l k (i + 1) = some i := by rw [nextI, if_pos h]

theorem Hs.next {K : Bool → HP} (st : Hs fr G As h) (g : Nat) (hg : G[g]? = some (le l s)) (hl : l.length ≤ 1099511627776) (hm : Mono l) (hk : k.length = l.length) (kt : Nat) (hkt : As[kt]? = some (ob k s2))
    (hN : ∀ h', nextI l k l.length = none → Hs fr G As h' → K false h') (hS : ∀ i h', nextI l k l.length = some i → Hs fr G (As.set kt (ob (cnd l k i) s2)) h' → K true h') :
    callT Try.prog fn_crash_next #[.slice s.a s.len s.cap, .slice s2.a s2.len s2.cap] .bool K h := by
  refine S_crash_next (a0 := s) (a1 := s2) K ?_
  unfold F_crash_next
  have l2 := osl_len (st.own kt hkt)
  have c2 := rsl_cap (st.own kt hkt).rsl
  have hktl := (List.getElem?_eq_some_iff.1 hkt).1
  refine lfp_invh (I := fun μ σ h' => ∃ n : Nat, σ = ((n : Int) - 1, false, ()) ∧ n ≤ l.length ∧ nextI l k n = nextI l k l.length ∧ Hs fr G As h' ∧ μ = n) ⟨_, l.length, ?_, Nat.le_refl _, rfl, st, rfl⟩ ?_
  · rw [l2, hk, wrap_i64 (by omega) (by omega)]
  clear st
  rintro μ σ h2 X ⟨n, rfl, hn, hnx, st, em⟩ hX
  simp only
  rcases Nat.eq_zero_or_pos n with h0 | h0
  · subst h0
    have e1 : decide ((((0 : Nat) : Int) - 1) ≥ (0 : Int)) = false := by decide
    rw [e1, brB_false]
    exact hN _ hnx.symm st
  · obtain ⟨i, rfl⟩ : ∃ i, n = i + 1 := ⟨n - 1, by omega⟩
    have e1 : (((i + 1 : Nat) : Int) - 1) = (i : Int) := by omega
    rw [e1, decide_eq_true (show (i : Int) ≥ 0 by omega), brB_true, wrap_i64 (x := (i : Int) - 1) (by omega) (by omega)]
    refine jn_in fun J hJ => ?_
    have fin : okAt l k i = false → ∀ h', Hs fr G As h' → J (false, ()) h' := fun ho h' st => hJ _ _ (hX _ _ _ ⟨i, rfl, by omega, by rw [← hnx, nextI_succ_f ho], st, rfl⟩ (by omega))
    refine rdE (τ := .bool) (st.own kt hkt).rsl (show i < k.length by omega) ?_
    rw [← K_get (show i < k.length by omega)]
    cases hki : Cr.K k i with
    | true =>
      rw [brB_true]
      refine fin ?_ _ st
      rw [← Bool.not_eq_true, okAt_iff, hki]
      exact fun h => by cases h.1
    | false =>
      rw [brB_false]
      refine ⟨by omega, by simp only; omega, ?_⟩
      rw [Int.toNat_natCast]
      have hS1 := rsl_sub (st.own kt hkt).rsl (l := 0) (m := i) (by omega) (by omega)
      rw [List.drop_zero] at hS1
      refine Hs.clone_bool st hS1 (by simp; omega) fun r7 h3 st => ?_
      have e2 : IntKind.wrap .i64 ((s2.len : Int) - (i : Int)) = ((l.length - i : Nat) : Int) := by rw [l2, hk, wrap_i64 (by omega) (by omega)]; omega
      rw [e2]
      refine Hs.apz (τ := .bool) (xs := k.take i) (s := r7) (z := false) st As.length (lastA _ _) rfl (by simp; omega) (by decide) fun s8 h4 st => ?_
      rw [setL] at st
      refine st.wrE (τ := .bool) (s := s8) As.length (lastA _ _) (show i < (k.take i ++ List.replicate (l.length - i) false).length by simp; omega) true fun h5 st => ?_
      rw [setL] at st
      have e3 : (k.take i ++ List.replicate (l.length - i) false).set i true = cnd l k i := by
        unfold cnd
        have e4 : (k.take i).length = i := by simp; omega
        rw [List.set_append_right _ _ (by omega), e4, Nat.sub_self]
        obtain ⟨q, hq⟩ : ∃ q, l.length - i = q + 1 := ⟨l.length - i - 1, by omega⟩
        rw [hq, List.replicate_succ, List.set_cons_zero]; rfl
      rw [e3] at st
      refine Hs.fill st g hg hl hm (show i < l.length by omega) hk hki As.length (lastA _ _) fun h6 st => ?_
      cases ho : okAt l k i with
      | true =>
        rw [brB_true]
        have e4 : (As ++ [ob (cnd l k i) s8])[kt]? = some (ob k s2) := by rw [List.getElem?_append_left hktl]; exact hkt
        refine Hs.cpyS (τ := .bool) st kt e4 (st.own As.length (lastA _ _)).rsl (by rw [cnd_len hk (by omega), hk]) leaf_bool fun h7 st => ?_
        rw [List.set_append_left _ _ hktl] at st
        exact hS i _ (by rw [← hnx, nextI_succ_t ho]) st.dropL
      | false =>
        rw [brB_false]
        exact fin ho _ st.dropL

end Go.Proofs.S
