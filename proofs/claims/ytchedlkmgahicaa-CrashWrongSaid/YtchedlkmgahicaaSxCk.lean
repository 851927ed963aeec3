/-
  slices.CompactFunc, slices.EqualFunc over slices of slices. Nothing here names a program.
-/
import Derived.Test.YtchedlkmgahicaaSxCp
import Derived.Test.YtchedlkmgahicaaSxCm
import Derived.Test.YtchedlkmgahicaaSxG
set_option linter.unusedVariables false
namespace Go.Sx
open Go

def cptRGo {α : Type} (r : α → α → Bool) (a : α) : List α → List α
  | [] => []
  | x :: L => if r x a then cptRGo r x L else x :: cptRGo r x L
def cptR {α : Type} (r : α → α → Bool) : List α → List α
  | [] => []
  | x :: L => x :: cptRGo r x L

theorem cptRGo_snoc {α : Type} (r : α → α → Bool) (y : α) : ∀ (L : List α) (a : α), cptRGo r a (L ++ [y]) = cptRGo r a L ++ (if r y ((a :: L).getLast (by simp)) then [] else [y])
  | [], a => by cases h : r y a <;> simp [cptRGo, h]
  | x :: L, a => by
    simp only [List.cons_append, cptRGo]
    have := cptRGo_snoc r y L x
    rw [this]
    have e : (a :: x :: L).getLast (by simp) = (x :: L).getLast (by simp) := by rw [List.getLast_cons]
    rw [e]
    split <;> simp
theorem cptR_step {α : Type} (r : α → α → Bool) {xs : List α} {j : Nat} (h0 : 0 < j) (hj : j < xs.length) : cptR r (xs.take (j + 1)) = cptR r (xs.take j) ++ (if r xs[j] (xs[j - 1]'(by omega)) then [] else [xs[j]]) := by
  rw [take_succ_getE hj]
  cases hx : xs.take j with
  | nil =>
    have := congrArg List.length hx
    rw [List.length_take, List.length_nil] at this; omega
  | cons a L =>
    have el : (a :: L).getLast (by simp) = xs[j - 1]'(by omega) := by
      have h1 : ∀ (l : List α) (h : l ≠ []), l = xs.take j → l.getLast h = xs[j - 1]'(by omega) := by
        rintro l h rfl
        rw [List.getLast_eq_getElem, List.getElem_take]
        congr 1
        simp; omega
      exact h1 _ _ hx.symm
    simp only [List.cons_append, cptR]
    rw [cptRGo_snoc, el]
theorem cptR_one {α : Type} (r : α → α → Bool) {xs : List α} (h : 0 < xs.length) : cptR r (xs.take 1) = xs.take 1 := by
  cases xs with
  | nil => simp at h
  | cons a L => simp [cptR, cptRGo]
theorem cptR_map {α β : Type} [DecidableEq β] (f : α → β) : ∀ xs : List α, (cptR (fun x y => decide (f x = f y)) xs).map f = cpt (xs.map f) := by
  have go : ∀ (L : List α) (a : α), (cptRGo (fun x y => decide (f x = f y)) a L).map f = cptGo (f a) (L.map f) := by
    intro L
    induction L with
    | nil => intro a; rfl
    | cons x L ih =>
      intro a
      unfold cptRGo
      simp only [List.map_cons, cptGo, decide_eq_true_eq]
      by_cases e : f x = f a
      · rw [if_pos e, if_pos e, ih x, e]
      · rw [if_neg e, if_neg e, List.map_cons, ih x]
  intro xs
  cases xs with
  | nil => rfl
  | cons a L => simp only [cptR, List.map_cons, cpt, go L a]
theorem cptR_mem {α : Type} {r : α → α → Bool} : ∀ {xs : List α} {x : α}, x ∈ cptR r xs → x ∈ xs := by
  have go : ∀ (L : List α) (a x : α), x ∈ cptRGo r a L → x ∈ L := by
    intro L
    induction L with
    | nil => intro a x h; simp [cptRGo] at h
    | cons y L ih =>
      intro a x h
      unfold cptRGo at h
      split at h
      · exact List.mem_cons_of_mem _ (ih _ _ h)
      · rcases List.mem_cons.1 h with rfl | h
        · simp
        · exact List.mem_cons_of_mem _ (ih _ _ h)
  intro xs x h
  cases xs with
  | nil => simp [cptR] at h
  | cons a L =>
    rcases List.mem_cons.1 h with rfl | h
    · simp
    · exact List.mem_cons_of_mem _ (go _ _ _ h)

section
variable {P : Program} {τ : Ty} {t : TypeId} {h h' : Heap} {xs ys : List τ.T} {s s2 : Sl} {fr : Fr} {G As : List Asn} {z : Value}

def W_compact (P : Program) (τ : Ty) (z : Value) (s : Sl) (fv : Value) (K : Sl → HP) : HP :=
  brB (decide ((s.len : Int) < (2 : Int))) (K ⟨s.a, s.len, s.cap⟩)
    (lfp (σ := Int × Sl × Unit) (fun X0 s1 => brB (decide (s1.1 < (s.len : Int)))
      (sx s.a s.len s1.1 1 fun p2 => ldT τ p2 fun x3 => sx s.a s.len (IntKind.wrap .i64 (s1.1 - (1 : Int))) 1 fun p4 => ldT τ p4 fun x5 => callF P fv #[τ.enc x3, τ.enc x5] .bool fun r6 => brB r6
        (slL ⟨s.a, s.len, s.cap⟩ s1.1 1 fun s7 => lfp (σ := Int × Int × Unit) (fun X8 s9 => brB (decide (s9.1 < (s7.len : Int)))
          (sx s7.a s7.len s9.1 1 fun p10 => ldT τ p10 fun x11 => sx s7.a s7.len (IntKind.wrap .i64 (s9.1 - (1 : Int))) 1 fun p12 => ldT τ p12 fun x13 => callF P fv #[τ.enc x11, τ.enc x13] .bool fun r14 =>
            jn (σ := Int × Unit) (fun s16 => X8 ((IntKind.wrap .i64 (s9.1 + (1 : Int))), s16.1, ())) (fun J15 => brB (!r14)
              (sx s7.a s7.len s9.1 1 fun p17 => ldT τ p17 fun x18 => sx s.a s.len s9.2.1 1 fun p19 => st1 p19 (τ.enc x18) <| J15 ((IntKind.wrap .i64 (s9.2.1 + (1 : Int))), ()))
              (J15 (s9.2.1, ()))))
          (slL ⟨s.a, s.len, s.cap⟩ s9.2.1 1 fun s20 => clr #[z] ⟨s20.a, s20.len, s20.cap⟩ <| slH ⟨s.a, s.len, s.cap⟩ s9.2.1 1 fun s21 => K ⟨s21.a, s21.len, s21.cap⟩))
          ((1 : Int), s1.1, ()))
        (X0 ((IntKind.wrap .i64 (s1.1 + (1 : Int))), ⟨s1.2.1.a, s1.2.1.len, s1.2.1.cap⟩, ())))
      (K ⟨s.a, s.len, s.cap⟩)) ((1 : Int), ⟨none, 0, 0⟩, ()))

theorem rd_at {b o len : Nat} {ws : List τ.T} {rest : List Value} (hb : Blk h b t (ws.map τ.enc ++ rest)) {i : Nat} (hi : i < len) (hw : o + i < ws.length) {K : τ.T → HP} (hK : K ws[o + i] h) :
    sx (some ⟨b, o, none⟩) len (i : Int) 1 (fun p => ldT τ p K) h := by
  refine ⟨_, rfl, Int.natCast_nonneg _, by omega, ws[o + i], ?_, hK⟩
  rw [Int.toNat_natCast, Nat.mul_one, addr_add, cell_blk hb, List.getElem?_append_left (by simpa using hw)]
  simp [hw]

theorem w_compact {fv : Value} {r : τ.T → τ.T → Bool} {S1 : List Nat} (hP : (osl t τ.enc xs s).P S1 h) (hl : xs.length ≤ 1099511627776) (hz : leafB z = true) (hleaf : Leaf τ)
    (hc : ∀ h', Ext S1 h h' → ∀ x ∈ xs, ∀ y ∈ xs, callF P fv #[τ.enc x, τ.enc y] .bool (fun b h2 => b = r x y ∧ Ext [] h' h2) h') {K : Sl → HP}
    (hK : ∀ s' h', (osl t τ.enc (cptR r xs) s').P S1 h' → Ext S1 h h' → K s' h') : W_compact P τ z s fv K h := by
  unfold W_compact
  have hlen : s.len = xs.length := rsl_len ⟨S1, osl_rsl hP⟩
  by_cases h2 : xs.length < 2
  · rw [decide_eq_true (show (s.len : Int) < 2 by omega), brB_true]
    have e : cptR r xs = xs := by
      match xs, h2 with
      | [], _ => rfl
      | [x], _ => rfl
    exact hK _ _ (by rw [e]; exact hP) (Ext.refl' _ _)
  · rw [decide_eq_false (show ¬ (s.len : Int) < 2 by omega), brB_false]
    rcases hP with ⟨b, rest, eS, es, hb⟩ | ⟨_, ex, _⟩
    · subst es; subst eS
      simp only at hlen
      refine lfp_invh (I := fun m σ h' => ∃ k : Nat, σ = ((k : Int), ⟨none, 0, 0⟩, ()) ∧ 1 ≤ k ∧ k ≤ xs.length ∧ cptR r (xs.take k) = xs.take k ∧ Blk h' b t (xs.map τ.enc ++ rest) ∧ Ext [b] h h' ∧ m = xs.length - k)
        ⟨_, 1, rfl, by omega, by omega, cptR_one r (by omega), hb, Ext.refl' _ _, rfl⟩ ?_
      rintro m σ h' X ⟨k, rfl, hk1, hk, hcp, hb', x', em⟩ hX
      simp only
      by_cases hkl : k < xs.length
      · rw [show decide ((k : Int) < (xs.length : Int)) = true from dlt_t hkl, brB_true, inc_i (show k < 4611686018427387904 by omega), dec_i (show k < 4611686018427387904 by omega) (by omega)]
        refine rd_at (o := 0) hb' hkl (by omega) ?_
        refine rd_at (o := 0) hb' (show k - 1 < xs.length by omega) (by omega) ?_
        simp only [Nat.zero_add]
        refine callF_of (hc h' x' _ (List.getElem_mem hkl) _ (List.getElem_mem (show k - 1 < xs.length by omega))) ?_
        rintro r6 h3 ⟨er, x3⟩
        have er : r6 = r xs[k] xs[k - 1] := er
        subst er
        have hb3 := hb'.ext x3 (by simp)
        have x3' := x'.nil_trans x3
        have hst := cptR_step r (show 0 < k by omega) hkl
        cases he : r xs[k] xs[k - 1] with
        | false =>
          rw [brB_false]
          refine hX _ _ _ ⟨k + 1, rfl, by omega, by omega, ?_, hb3, x3', rfl⟩ (by omega)
          rw [hst, hcp, he, take_succ_getE hkl]; rfl
        | true =>
          rw [brB_true]
          refine ⟨Int.natCast_nonneg _, by simp only; omega, ?_⟩
          rw [Int.toNat_natCast]
          have e7 : slR ⟨some ⟨b, 0, none⟩, xs.length, xs.length + rest.length⟩ k xs.length 1 = ⟨some ⟨b, k, none⟩, xs.length - k, xs.length + rest.length - k⟩ := by
            simp [slR]; omega
          show lfp _ _ _
          simp only [e7]
          clear hX
          refine lfp_invh (I := fun m σ h' => ∃ (j q : Nat) (ws : List τ.T), σ = (((j - k : Nat) : Int), (q : Int), ()) ∧ k < j ∧ j ≤ xs.length ∧ q < j ∧ cptR r (xs.take j) = ws.take q ∧ ws.length = xs.length ∧ ws.drop (j - 1) = xs.drop (j - 1) ∧ Blk h' b t (ws.map τ.enc ++ rest) ∧ Ext [b] h h' ∧ m = xs.length - j)
            ⟨_, k + 1, k, xs, by rw [show k + 1 - k = 1 by omega]; rfl, by omega, by omega, by omega, by rw [hst, he, hcp]; simp, rfl, rfl, hb3, x3', rfl⟩ ?_
          rintro m σ h4 X ⟨j, q, ws, rfl, hkj, hj, hqj, hcq, hw, hd, hb4, x4, em⟩ hX
          simp only
          have ewd : ∀ i (h1 : j - 1 ≤ i) (h2 : i < xs.length), ws[i]'(by omega) = xs[i] := fun i h1 h2 => by
            have := congrArg (fun l : List τ.T => l[i - (j - 1)]?) hd
            simp only [List.getElem?_drop] at this
            have e : j - 1 + (i - (j - 1)) = i := by omega
            rw [e, List.getElem?_eq_getElem (by omega), List.getElem?_eq_getElem h2] at this
            simpa using this
          by_cases hjl : j < xs.length
          · have e0 : decide (((j - k : Nat) : Int) < ((xs.length - k : Nat) : Int)) = true := by simp; omega
            rw [e0, brB_true]
            refine rd_at (o := k) hb4 (show j - k < xs.length - k by omega) (by omega) ?_
            rw [dec_i (show j - k < 4611686018427387904 by omega) (by omega)]
            refine rd_at (o := k) hb4 (show j - k - 1 < xs.length - k by omega) (by omega) ?_
            have e1 : k + (j - k) = j := by omega
            have e2 : k + (j - k - 1) = j - 1 := by omega
            simp only [e1, e2, ewd j (by omega) hjl, ewd (j - 1) (by omega) (by omega)]
            refine callF_of (hc h4 x4 _ (List.getElem_mem hjl) _ (List.getElem_mem (show j - 1 < xs.length by omega))) ?_
            rintro r14 h5 ⟨er, x5⟩
            have er : r14 = r xs[j] xs[j - 1] := er
            subst er
            have hb5 := hb4.ext x5 (by simp)
            have x5' := x4.nil_trans x5
            refine jn_in fun J hJ => ?_
            have ejk : IntKind.wrap .i64 (((j - k : Nat) : Int) + 1) = ((j + 1 - k : Nat) : Int) := by rw [inc_i (show j - k < 4611686018427387904 by omega)]; omega
            rw [ejk] at hJ
            have hstj := cptR_step r (show 0 < j by omega) hjl
            have ed2 : ∀ vs : List τ.T, vs.drop (j - 1) = xs.drop (j - 1) → vs.drop (j + 1 - 1) = xs.drop (j + 1 - 1) := fun vs hv => by
              have := congrArg (List.drop 1) hv
              rw [List.drop_drop, List.drop_drop] at this
              have e : j - 1 + 1 = j + 1 - 1 := by omega
              rwa [e] at this
            cases he2 : r xs[j] xs[j - 1] with
            | true =>
              simp only [Bool.not_true, brB_false]
              refine hJ _ _ (hX _ _ _ ⟨j + 1, q, ws, rfl, by omega, by omega, by omega, ?_, hw, ed2 ws hd, hb5, x5', rfl⟩ (by omega))
              rw [hstj, he2, hcq]; simp
            | false =>
              simp only [Bool.not_false, brB_true]
              refine rd_at (o := k) hb5 (show j - k < xs.length - k by omega) (by omega) ?_
              simp only [e1, ewd j (by omega) hjl]
              refine ⟨_, rfl, Int.natCast_nonneg _, Int.ofNat_lt.2 (show q < xs.length by omega), ?_⟩
              rw [Int.toNat_natCast, Nat.mul_one, addr_add]
              show st1 _ _ _ _
              rw [st_ok hb5 (by simp; omega), inc_i (show q < 4611686018427387904 by omega)]
              have hb6 := hb5.set (0 + q) (τ.enc xs[j])
              have e3 : (ws.map τ.enc ++ rest).set (0 + q) (τ.enc xs[j]) = (ws.set q xs[j]).map τ.enc ++ rest := by
                rw [List.set_append_left _ _ (by simp; omega)]; simp
              rw [e3] at hb6
              refine hJ _ _ (hX _ _ _ ⟨j + 1, q + 1, ws.set q xs[j], rfl, by omega, by omega, by omega, ?_, by simpa using hw, ?_, hb6, x5'.set _ _ (by simp), rfl⟩ (by omega))
              · rw [hstj, he2, hcq, take_succ_getE (by simp; omega), List.getElem_set_self, List.take_set_of_le (Nat.le_refl _)]; rfl
              · rw [List.drop_set_of_lt (by omega)]; exact ed2 ws hd
          · have ej : j = xs.length := by omega
            subst ej
            have e0 : decide (((xs.length - k : Nat) : Int) < ((xs.length - k : Nat) : Int)) = false := by simp
            rw [e0, brB_false]
            rw [List.take_length] at hcq
            refine ⟨Int.natCast_nonneg _, Int.ofNat_le.2 (show q ≤ xs.length by omega), ?_⟩
            have e1 : slR ⟨some ⟨b, 0, none⟩, xs.length, xs.length + rest.length⟩ (q : Int).toNat xs.length 1 = ⟨some ⟨b, q, none⟩, xs.length - q, xs.length + rest.length - q⟩ := by
              simp [slR]; omega
            show clr _ _ _ _
            rw [e1]
            unfold clr
            simp only
            refine stA_ok _ 0 hb4 (by simp [Builtin.zeroCells]; omega) ?_ ?_
            · intro v hv
              simp [Builtin.zeroCells, Nat.mod_one] at hv
              obtain ⟨_, _, rfl⟩ := hv
              exact hz
            · intro h5 hb5 x5
              have hlen : (ws.take q).length = q := by simp; omega
              refine ⟨Int.natCast_nonneg _, Int.ofNat_le.2 (show q ≤ xs.length + rest.length by omega), hK _ _ (.inl ⟨b, (List.replicate (xs.length - q) z) ++ rest, rfl, ?_, ?_⟩) (x4.trans x5 (fun y hy => .inl hy))⟩
              · rw [hcq, hlen]
                simp [slR]; omega
              · have e3 : List.take (q + 0) (List.map τ.enc ws ++ rest) ++ (Builtin.zeroCells #[z] (xs.length - q)).toList ++ List.drop (q + 0 + (Builtin.zeroCells #[z] (xs.length - q)).toList.length) (List.map τ.enc ws ++ rest) = List.map τ.enc (cptR r xs) ++ (List.replicate (xs.length - q) z ++ rest) := by
                  have ez : (Builtin.zeroCells #[z] (xs.length - q)).toList = List.replicate (xs.length - q) z := by
                    apply List.ext_getElem
                    · simp [Builtin.zeroCells]
                    · intro i h1 h2; simp [Builtin.zeroCells, Nat.mod_one]
                  rw [ez, hcq, Nat.add_zero, List.length_replicate]
                  have e4 : q + (xs.length - q) = (List.map τ.enc ws).length := by simp; omega
                  rw [e4, List.drop_left, List.take_append_of_le_length (by simp; omega), List.map_take]
                  simp
                rw [e3] at hb5; exact hb5
      · have ek : k = xs.length := by omega
        subst ek
        rw [show decide ((xs.length : Int) < (xs.length : Int)) = false by simp, brB_false]
        rw [List.take_length] at hcp
        exact hK _ _ (by rw [hcp]; exact .inl ⟨b, rest, rfl, rfl, hb'⟩) x'
    · subst ex; simp at h2

end
end Go.Sx
