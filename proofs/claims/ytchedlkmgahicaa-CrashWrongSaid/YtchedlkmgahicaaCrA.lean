/-
  The package crash: Right, group, check, valid, Valid: contracts.
-/
import Derived.Test.YtchedlkmgahicaaCrF
import Derived.Test.YtchedlkmgahicaaSxCm
import Derived.Test.YtchedlkmgahicaaSxN
set_option linter.unusedVariables false
set_option linter.unusedSimpArgs false
namespace Go.Proofs.S
open Go Go.Sx Go.Proofs Go.Cr

theorem callT_gen {P : Program} {f : FuncId} {args : Array Value} {τ : Ty} {R : τ.T → HP} {h : Heap} (hc : ∀ K : τ.T → HP, (∀ x h', R x h' → K x h') → callT P f args τ K h) : callT P f args τ R h :=
  hc R fun _ _ h => h

abbrev i64 : Ty := .int .i64
abbrev u32 : Ty := .int .u32
abbrev tE : Ty := .cons (.int .i64) (.cons (.int .u32) (.cons (.int .i64) .nil))
abbrev le (l : List Ent) (s : Sl) : Asn := rsn 3 tE.vals l s
abbrev oe (l : List Ent) (s : Sl) : Asn := osn ty_disk_Entry 3 tE.vals l s
abbrev lb (k : List Bool) (s : Sl) : Asn := rsl Ty.bool.enc k s
abbrev ob (k : List Bool) (s : Sl) : Asn := osl ty_bool Ty.bool.enc k s
abbrev lw (k : List Int) (s : Sl) : Asn := rsl u32.enc k s
abbrev ow (k : List Int) (s : Sl) : Asn := osl ty_bitword_Word u32.enc k s
theorem wideE : Wide 3 tE.vals := fun _ => rfl
variable {h : Heap} {l : List Ent} {k : List Bool} {m : List Int} {s s2 s3 : Sl} {fr : Fr} {G As : List Asn}

abbrev cE (b : Nat) (x : Ent) : Asn := cl b ty_disk_Entry [.int .i64 x.1, .int .u32 x.2.1, .int .i64 x.2.2.1]
theorem Hs.rdEnt (st : Hs fr G As h) (hA : At h (le l s)) {i : Nat} (hi : i < l.length) {K : Nat → HP} (hK : ∀ b h', Hs fr G (As ++ [cE b l[i]]) h' → K b h') :
    sx s.a s.len (i : Int) 3 (fun p => ldA tE p fun x => nw #[(.int .i64 (0 : Int)), (.int .u32 (0 : Int)), (.int .i64 (0 : Int))] ty_disk_Entry fun b =>
      st1 (⟨b, 0, none⟩ : Addr) (.int .i64 x.1) <| st1 ((⟨b, 0, none⟩ : Addr).add 1) (.int .u32 x.2.1) <| st1 ((⟨b, 0, none⟩ : Addr).add 2) (.int .i64 x.2.2.1) <| K b) h := by
  refine rdN (τ := tE) hA hi ?_
  refine st.nw fun b h1 st => ?_
  simp only [addr_add, Nat.zero_add]
  have e : ∀ c, (As ++ [c])[As.length]? = some c := fun c => by simp
  have e2 : ∀ c d, (As ++ [c]).set As.length d = As ++ [d] := fun c d => by rw [List.set_append_right _ _ (Nat.le_refl _), Nat.sub_self]; rfl
  refine st.st1 As.length 0 (e _) (by simp) fun h2 st => ?_
  rw [e2] at st
  refine st.st1 As.length 1 (e _) (by simp) fun h3 st => ?_
  rw [e2] at st
  refine st.st1 As.length 2 (e _) (by simp) fun h4 st => ?_
  rw [e2] at st
  exact hK b h4 st
theorem rdEp (hA : At h (le l s)) {i : Nat} (hi : i < l.length) {K : Int → HP} (hK : K (E l i) h) : sx s.a s.len (i : Int) 3 (fun p => ldT i64 (p.add 2) K) h :=
  rdNf (σ := i64) hA hi 2 (v := E l i) (by rw [E_get hi]; rfl) hK

theorem right_c (hA : At h (le l s)) (hl : l.length ≤ 1099511627776) : callT Try.prog fn_crash_Right #[.slice s.a s.len s.cap] .bool (fun r h' => r = rightL l ∧ Ext [] h h') h := by
  refine callT_gen fun K hK => S_crash_Right (a0 := s) K ?_
  unfold F_crash_Right
  have l1 := rsn_len hA
  have st := Hs.start h [le l s] (by simp [hA])
  refine lfp_invh (I := fun m σ h' => ∃ (i : Nat) (e : Int), σ = ((i : Int), e, false, ()) ∧ i ≤ l.length ∧ rightGo e (l.drop i) = rightGo 0 l ∧ Hs [([], h)] [le l s] [] h' ∧ m = l.length - i) ⟨_, 0, 0, rfl, by omega, rfl, st, rfl⟩ ?_
  clear st
  rintro m σ h2 X ⟨i, e, rfl, hi, hc, st, em⟩ hX
  simp only
  by_cases hlt : i < l.length
  · rw [show decide ((i : Int) < (s.len : Int)) = true by rw [l1]; exact dlt_t hlt, brB_true, inc_i (show i < 4611686018427387904 by omega)]
    rw [List.drop_eq_getElem_cons hlt] at hc
    simp only [rightGo] at hc
    refine Hs.rdEnt st (st.fz 0 rfl) hlt fun b h3 st => ?_
    simp only [addr_add, Nat.zero_add]
    rw [st.ldi 0 0 rfl rfl]
    by_cases h1 : l[i].1 < 0
    · rw [decide_eq_true h1, brB_true]
      refine hK _ _ ⟨?_, st.frame (by simp)⟩
      rw [rightL, ← hc, decide_eq_false (by omega)]; simp
    · rw [decide_eq_false h1, brB_false, st.ldi 0 0 rfl rfl]
      by_cases h2 : l[i].1 ≥ 16
      · rw [decide_eq_true h2, brB_true]
        refine hK _ _ ⟨?_, st.frame (by simp)⟩
        rw [rightL, ← hc, decide_eq_true (show 0 ≤ l[i].1 by omega), decide_eq_false (show ¬ l[i].1 < 16 by omega)]; simp
      · rw [decide_eq_false h2, brB_false, st.ldi 0 2 rfl rfl]
        by_cases h3 : l[i].2.2.1 < e
        · rw [decide_eq_true h3, brB_true]
          refine hK _ _ ⟨?_, st.frame (by simp)⟩
          rw [rightL, ← hc, decide_eq_false (show ¬ e ≤ l[i].2.2.1 by omega)]; simp
        · rw [decide_eq_false h3, brB_false, st.ldi 0 2 rfl rfl]
          refine hX _ _ _ ⟨i + 1, _, rfl, by omega, ?_, st.drop 0 rfl, rfl⟩ (by omega)
          rw [← hc, decide_eq_true (show 0 ≤ l[i].1 by omega), decide_eq_true (show l[i].1 < 16 by omega), decide_eq_true (show e ≤ l[i].2.2.1 by omega)]; simp
  · rw [show decide ((i : Int) < (s.len : Int)) = false by rw [l1]; exact dlt_f hlt, brB_false]
    rw [List.drop_eq_nil_of_le (by omega), rightGo] at hc
    refine hK _ _ ⟨?_, st.frame (by simp)⟩
    rw [rightL, ← hc, l1]; simp; omega

theorem check_c (hA : At h (le l s)) (hB : At h (lb k s2)) (hl : l.length ≤ 1099511627776) :
    callT Try.prog fn_crash_check #[.slice s.a s.len s.cap, .slice s2.a s2.len s2.cap] (.int .i64) (fun r h' => r = checkC l k ∧ Ext [] h h') h := by
  refine callT_gen fun K hK => S_crash_check (a0 := s) (a1 := s2) K ?_
  unfold F_crash_check
  refine call_of (right_c hA hl) ?_
  rintro _ h1 ⟨rfl, x1⟩
  unfold checkC at hK
  cases hr : rightL l with
  | false => simp only [Bool.not_false, brB_true]; exact hK _ _ ⟨by simp [hr], x1⟩
  | true =>
    simp only [Bool.not_true, brB_false, rsn_len hA, rsl_len hB]
    by_cases e : k.length = l.length
    · rw [show ((k.length : Int) != (l.length : Int)) = false by simp [e], brB_false]; exact hK _ _ ⟨by simp [hr, e], x1⟩
    · rw [show ((k.length : Int) != (l.length : Int)) = true by simp; omega, brB_true]; exact hK _ _ ⟨by simp [hr, e], x1⟩

def gEnd (l : List Ent) (i : Nat) : Nat := i + ((l.drop i).takeWhile fun y => y.2.2.1 == E l i).length

theorem gEnd_spec {l : List Ent} {i : Nat} (hi : i < l.length) : i < gEnd l i ∧ gEnd l i ≤ l.length ∧ (∀ j, i ≤ j → j < gEnd l i → E l j = E l i) ∧ (gEnd l i < l.length → E l (gEnd l i) ≠ E l i) := by
  have key : ∀ (l : List Ent) (p : Ent → Bool), (l.takeWhile p).length ≤ l.length ∧ (∀ j (hj : j < l.length), j < (l.takeWhile p).length → p l[j] = true) ∧ (∀ hj : (l.takeWhile p).length < l.length, p (l[(l.takeWhile p).length]'hj) = false) := by
    intro l p
    induction l with
    | nil => simp
    | cons a l ih =>
      by_cases h : p a = true
      · rw [List.takeWhile_cons_of_pos h]
        refine ⟨by simpa using ih.1, fun j hj h2 => ?_, fun hj => ?_⟩
        · cases j with
          | zero => exact h
          | succ j => exact ih.2.1 j (by simpa using hj) (by simpa using h2)
        · simpa using ih.2.2 (by simpa using hj)
      · rw [List.takeWhile_cons_of_neg h]
        exact ⟨by simp, fun j hj h2 => by simp at h2, fun hj => by simpa using h⟩
  obtain ⟨a, b, c⟩ := key (l.drop i) fun y => y.2.2.1 == E l i
  rw [List.length_drop] at a
  refine ⟨?_, by unfold gEnd; omega, fun j h1 h2 => ?_, fun h1 => ?_⟩
  · unfold gEnd
    rw [List.drop_eq_getElem_cons hi, List.takeWhile_cons_of_pos (by rw [E_get hi]; simp)]
    simp
  · unfold gEnd at h2
    have := b (j - i) (by rw [List.length_drop]; omega) (by omega)
    rw [List.getElem_drop] at this
    have e : i + (j - i) = j := by omega
    rw [E_get (by omega)]
    simp only [e] at this
    simpa using this
  · unfold gEnd at h1 ⊢
    have := c (by rw [List.length_drop]; omega)
    rw [List.getElem_drop] at this
    rw [E_get h1]
    simpa using this

abbrev groupV (b : Nat) : Value := .func (.func fn_crash_group_1) #[] #[.pointer (some ⟨b, 0, none⟩)]
theorem group_c {K : Value → HP} (hK : ∀ b h', Ext [] h h' → Blk h' b ty_sl_disk_Entry [.slice s.a s.len s.cap] → K (groupV b) h') : callT Try.prog fn_crash_group #[.slice s.a s.len s.cap] .val K h := by
  refine S_crash_group (a0 := s) K ?_
  unfold F_crash_group
  rw [nw_eq]
  exact hK _ _ ((Ext.refl' [] h).push _) (Blk.new h _ #[.slice s.a s.len s.cap])

theorem group1_c {b : Nat} (kb : Blk h b ty_sl_disk_Entry [.slice s.a s.len s.cap]) (hA : At h (le l s)) (hl : l.length ≤ 1099511627776) {i : Nat} (hi : i < l.length) :
    callT Try.prog fn_crash_group_1 #[.int .i64 (i : Int), .pointer (some ⟨b, 0, none⟩)] (.int .i64) (fun r h' => r = (gEnd l i : Int) ∧ h' = h) h := by
  refine callT_gen fun K hK => S_crash_group_1 (a0 := (i : Int)) (c0 := ⟨b, 0, none⟩) K ?_
  unfold F_crash_group_1
  have l1 := rsn_len hA
  obtain ⟨g1, g2, g3, g4⟩ := gEnd_spec hi
  refine jn_in fun J hJ => ?_
  refine lfp_invh (I := fun m σ h' => ∃ j : Nat, σ = ((j : Int), ()) ∧ i ≤ j ∧ j ≤ gEnd l i ∧ h' = h ∧ m = l.length - j) ⟨_, i, rfl, by omega, by omega, rfl, rfl⟩ ?_
  rintro m σ h2 X ⟨j, rfl, hij, hj, rfl, em⟩ hX
  simp only
  have fin : j = gEnd l i → J ((j : Int), ()) h2 := fun e => hJ _ _ (hK _ _ ⟨by rw [e], rfl⟩)
  rw [ld_sl (i := 0) kb rfl]
  by_cases hlt : j < l.length
  · rw [show decide ((j : Int) < (s.len : Int)) = true by rw [l1]; exact dlt_t hlt, brB_true, ld_sl (i := 0) kb rfl]
    refine rdEp hA hlt ?_
    rw [ld_sl (i := 0) kb rfl]
    refine rdEp hA hi ?_
    by_cases e : j < gEnd l i
    · rw [show (E l j == E l i) = true by simp [g3 j hij e], brB_true, inc_i (show j < 4611686018427387904 by omega)]
      exact hX _ _ _ ⟨j + 1, rfl, by omega, by omega, rfl, rfl⟩ (by omega)
    · have e2 : j = gEnd l i := by omega
      rw [show (E l j == E l i) = false by simp; rw [e2]; exact g4 (by omega), brB_false]
      exact fin e2
  · rw [show decide ((j : Int) < (s.len : Int)) = false by rw [l1]; exact dlt_f hlt, brB_false]
    exact fin (by omega)
theorem groupF {b : Nat} (kb : Blk h b ty_sl_disk_Entry [.slice s.a s.len s.cap]) (hA : At h (le l s)) (hl : l.length ≤ 1099511627776) {i : Nat} (hi : i < l.length) :
    callF Try.prog (groupV b) #[.int .i64 (i : Int)] (.int .i64) (fun r h' => r = (gEnd l i : Int) ∧ h' = h) h := callF_func (group1_c kb hA hl hi)

theorem any_contains (c : List Bool) (v : Bool) : c.any (fun x => v == x) = c.contains v := by
  rw [List.contains_eq_any_beq]
theorem contains_bool (hA : At h (lb k s)) (hl : k.length ≤ 1099511627776) (v : Bool) : callT Try.prog fn_slices_Contains_bool_bool #[.slice s.a s.len s.cap, .bool v] .bool (fun r h' => r = k.contains v ∧ h' = h) h := by
  refine callT_gen fun K hK => S_slices_Contains_bool_bool (a0 := s) (a1 := v) K ?_
  unfold F_slices_Contains_bool_bool
  refine call_of (R := fun r h' => r = fidx (fun x => v == x) k ∧ h' = h) ?_ ?_
  · exact callT_gen fun K hK => S_slices_Index_bool_bool (a0 := s) (a1 := v) K (w_index (τ := .bool) hA hl (hK _ _ ⟨rfl, rfl⟩))
  · rintro r h' ⟨rfl, rfl⟩
    exact hK _ _ ⟨by rw [fidx_ge, any_contains], rfl⟩

end Go.Proofs.S
