/-
  RatSmall.
-/
import Derived.Test.YtjkgncibelojnaaGreatRcN
import Derived.Test.YtjkgncibelojnaaGreatSxT
import Derived.Test.YtjkgncibelojnaaGreatSxG
import Derived.Test.YtjkgncibelojnaaGreatSxN
import Derived.Deep.Slices
import Derived.Test.YtjkgncibelojnaaGreatRaL
import Derived.Test.YtjkgncibelojnaaGreatRows
import Derived.Test.YtjkgncibelojnaaGreatChecked
set_option linter.unusedVariables false
set_option linter.unusedSimpArgs false
namespace Go.Proofs.S
open Go Go.Sx Go.Proofs Go.Cl Go.Rp Go.Rt
variable {h h0 : Heap} {c d A ids : List Int} {l : List Ent} {gs : List Grp} {s s2 s3 s4 s5 sc : Sl} {fr : Fr} {G G' As : List Asn} {id p : Int} {i : Nat} {t tl : TypeId} {L : List (List Int)}
def RsLoop (b7 b19 b25 : Nat) (K : Bool → HP) : HP :=
 lfp (σ := (Int × (Bool × Unit))) (fun X26 s27 =>
 brB (decide (s27.1 < (343 : Int)))
 (nz (7 : Int) <|
 sx (some (⟨b7, 0, none⟩ : Addr)) 7 (Int.tmod s27.1 (7 : Int)) 1 fun p28 =>
 ldT .sl p28 fun x29 =>
 nz (7 : Int) <|
 nz (7 : Int) <|
 sx (some (⟨b7, 0, none⟩ : Addr)) 7 (Int.tmod (IntKind.wrap .i64 (Int.tdiv s27.1 (7 : Int))) (7 : Int)) 1 fun p30 =>
 ldT .sl p30 fun x31 =>
 nz (49 : Int) <|
 sx (some (⟨b7, 0, none⟩ : Addr)) 7 (IntKind.wrap .i64 (Int.tdiv s27.1 (49 : Int))) 1 fun p32 =>
 ldT .sl p32 fun x33 =>
 nw #[(.int .i64 (1 : Int)), (.slice x29.a x29.len x29.cap), (.int .i64 (3 : Int)), (.slice x31.a x31.len x31.cap), (.int .i64 (7 : Int)), (.slice x33.a x33.len x33.cap)] ty_rat_Entry fun b34 =>
 lfp (σ := (Int × (Bool × Unit))) (fun X35 s36 =>
 brB (decide (s36.1 < (12 : Int)))
 (sx (some (⟨b19, 0, none⟩ : Addr)) 12 s36.1 1 fun p37 =>
 ldT .sl p37 fun x38 =>
 nz (6 : Int) <|
 sx (some (⟨b25, 0, none⟩ : Addr)) 6 (Int.tmod (IntKind.wrap .i64 (s27.1 + s36.1)) (6 : Int)) 1 fun p39 =>
 ldT .sl p39 fun x40 =>
 nz (6 : Int) <|
 sx (some (⟨b25, 0, none⟩ : Addr)) 6 (Int.tmod (IntKind.wrap .i64 (s27.1 + (IntKind.wrap .i64 ((2 : Int) * s36.1)))) (6 : Int)) 1 fun p41 =>
 ldT .sl p41 fun x42 =>
 nz (6 : Int) <|
 sx (some (⟨b25, 0, none⟩ : Addr)) 6 (Int.tmod (IntKind.wrap .i64 (s36.1 + (4 : Int))) (6 : Int)) 1 fun p43 =>
 ldT .sl p43 fun x44 =>
 nw #[(.int .i64 (1 : Int)), (.slice x40.a x40.len x40.cap), (.int .i64 (3 : Int)), (.slice x42.a x42.len x42.cap), (.int .i64 (7 : Int)), (.slice x44.a x44.len x44.cap)] ty_rat_Group fun b45 =>
 lfp (σ := (Int × (Sl × Unit))) (fun X46 s47 =>
 brB (decide (s47.1 < (3 : Int)))
 (sx (some (⟨b45, 0, none⟩ : Addr)) 3 s47.1 2 fun p48 =>
 ldA (.cons (.int .i64) (.cons .sl .nil)) p48 fun x49 =>
 nw #[(.int .i64 (0 : Int)), (.slice none 0 0)] ty_rat_Group fun b50 =>
 st1 (⟨b50, 0, none⟩ : Addr) (.int .i64 x49.1) <|
 st1 ((⟨b50, 0, none⟩ : Addr).add 1) (.slice x49.2.1.a x49.2.1.len x49.2.1.cap) <|
 ge0 s47.1 <|
 jn (σ := (Sl × Unit)) (fun s52 =>
 X46 ((IntKind.wrap .i64 (s47.1 + (1 : Int))), ⟨s52.1.a, s52.1.len, s52.1.cap⟩, ()))
 (fun J51 =>
 brB ((bAnd .i64 (Int.fdiv (IntKind.wrap .i64 (s27.1 + (IntKind.wrap .i64 (s36.1 * (3 : Int))))) (2 ^ (min (s47.1).toNat 64))) (1 : Int)) == (1 : Int))
 (ldA (.cons (.int .i64) (.cons .sl .nil)) (⟨b50, 0, none⟩ : Addr) fun x53 =>
 nw #[(.int .i64 x53.1), (.slice x53.2.1.a x53.2.1.len x53.2.1.cap)] ty_rat_Group fun b54 =>
 apd ty_rat_Group 2 32 #[(.int .i64 (0 : Int)), (.slice none 0 0)] ⟨s47.2.1.a, s47.2.1.len, s47.2.1.cap⟩ ⟨(some (⟨b54, 0, none⟩ : Addr)), 1, 1⟩ fun s55 =>
 J51 (⟨s55.a, s55.len, s55.cap⟩, ()))
 (J51 (⟨s47.2.1.a, s47.2.1.len, s47.2.1.cap⟩, ()))))
 (nz (6 : Int) <|
 sx (some (⟨b25, 0, none⟩ : Addr)) 6 (Int.tmod (IntKind.wrap .i64 (s27.1 + (IntKind.wrap .i64 ((5 : Int) * s36.1)))) (6 : Int)) 1 fun p56 =>
 ldT .sl p56 fun x57 =>
 callT Tryz.prog fn_salvorlaw09_checks #[(.slice (some (⟨b34, 0, none⟩ : Addr)) 3 3), (.agg #[(.slice x38.a x38.len x38.cap), (.slice x57.a x57.len x57.cap), (.slice s47.2.1.a s47.2.1.len s47.2.1.cap)])] .bool fun r58 =>
 jn (σ := Bool) (fun t60 =>
 jn (σ := Bool) (fun t62 =>
 brB t62
 (K false)
 (callT Tryz.prog fn_rat_Search #[(.slice (some (⟨b34, 0, none⟩ : Addr)) 3 3), (.slice x38.a x38.len x38.cap)] (.tup (.cons (.agg (.cons .sl (.cons .sl (.cons .sl .nil)))) (.cons (.int .u8) (.cons .bool (.cons (.int .i64) .nil))))) fun r63 =>
 nw #[(.slice none 0 0), (.slice none 0 0), (.slice none 0 0)] ty_rat_Step fun b64 =>
 st1 (⟨b64, 0, none⟩ : Addr) (.slice r63.1.1.a r63.1.1.len r63.1.1.cap) <|
 st1 ((⟨b64, 0, none⟩ : Addr).add 1) (.slice r63.1.2.1.a r63.1.2.1.len r63.1.2.1.cap) <|
 st1 ((⟨b64, 0, none⟩ : Addr).add 2) (.slice r63.1.2.2.1.a r63.1.2.2.1.len r63.1.2.2.1.cap) <|
 jn (σ := Bool) (fun t66 =>
 brB t66
 (K false)
 (X35 ((IntKind.wrap .i64 (s36.1 + (1 : Int))), s36.2.1, ())))
 (fun J65 =>
 brB (r63.2.2.2.1 != (0 : Int))
 (J65 true)
 (jn (σ := Bool) (fun t68 =>
 J65 (t68))
 (fun J67 =>
 brB r63.2.2.1
 (ldA (.cons .sl (.cons .sl (.cons .sl .nil))) (⟨b64, 0, none⟩ : Addr) fun x69 =>
 callT Tryz.prog fn_salvorlaw09_checks #[(.slice (some (⟨b34, 0, none⟩ : Addr)) 3 3), (.agg #[(.slice x69.1.a x69.1.len x69.1.cap), (.slice x69.2.1.a x69.2.1.len x69.2.1.cap), (.slice x69.2.2.1.a x69.2.2.1.len x69.2.2.1.cap)])] .bool fun r70 =>
 J67 ((!r70)))
 (J67 false))))))
 (fun J61 =>
 brB t60
 (J61 true)
 (nz (8 : Int) <|
 callT Tryz.prog fn_salvorlaw09_tells #[(.slice (some (⟨b34, 0, none⟩ : Addr)) 3 3), (.int .i64 (IntKind.wrap .i64 ((Int.tmod s27.1 (8 : Int)) - (4 : Int))))] .bool fun r71 =>
 J61 ((!r71)))))
 (fun J59 =>
 brB (!r58)
 (J59 true)
 (callT Tryz.prog fn_salvorlaw09_searches #[(.slice (some (⟨b34, 0, none⟩ : Addr)) 3 3), (.slice x38.a x38.len x38.cap)] .bool fun r72 =>
 J59 ((!r72))))))
 ((0 : Int), ⟨none, 0, 0⟩, ()))
 (X26 ((IntKind.wrap .i64 (s27.1 + (1 : Int))), s36.2.1, ())))
 ((0 : Int), s27.2.1, ()))
 (callT Tryz.prog fn_salvorlaw09_limits #[] .bool fun r73 =>
 jn (σ := Bool) (fun t75 =>
 K t75)
 (fun J74 =>
 brB r73
 (callT Tryz.prog fn_salvorlaw09_awake #[] .bool fun r76 =>
 J74 (r76))
 (J74 false))))
 ((0 : Int), false, ())
theorem search_lens2 (hE : rightE l = true) (hl : l.length ≤ 1000) (hf : fuelE l ≤ 1000) : (searchP l c).1.hints.length ≤ 1000 ∧ (searchP l c).1.groups.length ≤ 1000 ∧ ∀ g ∈ (searchP l c).1.groups, g.2.length ≤ 1000 := by
  by_cases h20 : (findP c (clsE l)).2.2 = 20
  · rw [search20 hE h20]; simp
  by_cases hff : (findP c (clsE l)).2.1 = true
  · rw [searchF hE h20 hff]
    have := (find_good hE (by omega) hff).2
    simp only [named_len]
    exact ⟨by omega, by simp, by simp⟩
  cases c with
  | nil => rw [searchN hE h20 hff (.inl rfl)]; simp
  | cons p r =>
    by_cases h0 : (findP (p :: r) (clsE l)).2.2 = 0
    · obtain ⟨q1, q2⟩ := searchG hE h20 hff h0
      cases hg : groupsGo l p (propGo l (fuelE l) (negs (p :: r)) []).1 (l.filter (isCand p)) with
      | none => rw [q1 hg]; simp
      | some gs =>
        rw [q2 gs hg]
        have h1 := (propGo_len (l := l) (fuelE l) (negs (p :: r)) []).2
        simp only [List.length_nil] at h1
        have h2 := groupsGo_len hg
        have h3 : (l.filter (isCand p)).length ≤ l.length := List.length_filter_le _ _
        refine ⟨by simp only; omega, by simp only; omega, fun g hgm => ?_⟩
        obtain ⟨x, hx⟩ := groupsGo_each hg g hgm
        unfold oneG at hx
        split at hx
        · obtain rfl := Option.some.inj hx; simp
        · split at hx
          · cases hx
          · rename_i q
            obtain rfl := Option.some.inj hx
            have q : (findP (failsP p (propGo l (fuelE l) (negs (p :: r)) []).1 x.2) (clsE l)).2.1 = true := by
              exact Bool.of_not_eq_false fun k => q (.inr k)
            have := (find_good hE (by omega) q).2
            simp only [named_len]; omega
    · rw [searchN hE h20 hff (.inr h0)]; simp
theorem right3 {a b c : List Int} (ha : rightC a = true) (hb : rightC b = true) (hc : rightC c = true) : rightE [(1, a), (3, b), (7, c)] = true := by
  simp [rightE, rightGo, ha, hb, hc, maxID]
theorem len3 {a b c : List Int} (ha : a.length ≤ 3) (hb : b.length ≤ 3) (hc : c.length ≤ 3) : ∀ x ∈ [((1 : Int), a), (3, b), (7, c)], x.2.length ≤ 3 := by
  intro x hx
  simp only [List.mem_cons, List.not_mem_nil, or_false] at hx
  rcases hx with rfl | rfl | rfl
  · exact ha
  · exact hb
  · exact hc
set_option maxRecDepth 20000 in
set_option maxHeartbeats 2000000 in
theorem rsLoop_c {K : Bool → HP} {b7 b19 b25 : Nat} {L7 L12 L6 : List (List Int)} (st : Hs [([], h0)] G [] h) (r7 : Lits G L7 ⟨some ⟨b7, 0, none⟩, 7, 7⟩) (e7 : L7.length = 7) (q7 : ∀ q ∈ L7, q.length ≤ 3 ∧ rightC q = true)
    (r12 : Lits G L12 ⟨some ⟨b19, 0, none⟩, 12, 12⟩) (e12 : L12.length = 12) (q12 : ∀ q ∈ L12, q.length ≤ 3 ∧ rightC q = true) (r6 : Lits G L6 ⟨some ⟨b25, 0, none⟩, 6, 6⟩) (e6 : L6.length = 6) (q6 : ∀ q ∈ L6, q.length ≤ 3)
    (hK : ∀ h', Ext [] h0 h' → K true h') : RsLoop b7 b19 b25 K h := by
  unfold RsLoop
  refine lfp_invh (I := fun m σ h' => ∃ (n : Nat) (u : Bool), σ = ((n : Int), u, ()) ∧ n ≤ 343 ∧ Hs [([], h0)] G [] h' ∧ m = 343 - n) ⟨_, 0, false, rfl, by omega, st, rfl⟩ ?_
  clear st
  rintro m σ h1 X ⟨n, u, rfl, hn, st, rfl⟩ hX
  simp only
  by_cases hlt : n < 343
  rotate_left
  · refine brF (decide_eq_false (by omega)) ?_
    refine call_of (limits_c _) ?_
    rintro _ h2 ⟨rfl, x2⟩
    refine jn_in fun J hJ => brT rfl ?_
    refine call_of (awake9_c _) ?_
    rintro _ h3 ⟨rfl, x3⟩
    exact hJ _ _ (hK _ (((st.ext x2).ext x3).frame (by simp)))
  refine brT (decide_eq_true (by omega)) ?_
  rw [nz_ok (by decide)]
  have t1 : Int.tmod (n : Int) (7 : Int) = ((n % 7 : Nat) : Int) := rfl
  have t2 : Int.tmod (IntKind.wrap .i64 (Int.tdiv (n : Int) (7 : Int))) (7 : Int) = ((n / 7 % 7 : Nat) : Int) := by
    have : Int.tdiv (n : Int) (7 : Int) = ((n / 7 : Nat) : Int) := rfl
    rw [this, wrap_i64 (by omega) (by omega)]; rfl
  have t3 : IntKind.wrap .i64 (Int.tdiv (n : Int) (49 : Int)) = ((n / 49 : Nat) : Int) := by
    have : Int.tdiv (n : Int) (49 : Int) = ((n / 49 : Nat) : Int) := rfl
    rw [this, wrap_i64 (by omega) (by omega)]
  rw [t1]
  refine r7.rd st (i := n % 7) (by omega) fun x29 m29 => ?_
  rw [nz_ok (by decide), nz_ok (by decide), t2]
  refine r7.rd st (i := n / 7 % 7) (by omega) fun x31 m31 => ?_
  rw [nz_ok (by decide), t3]
  refine r7.rd st (i := n / 49) (by omega) fun x33 m33 => ?_
  obtain ⟨p29, k29⟩ := q7 _ (List.getElem_mem (show n % 7 < L7.length by omega))
  obtain ⟨p31, k31⟩ := q7 _ (List.getElem_mem (show n / 7 % 7 < L7.length by omega))
  obtain ⟨p33, k33⟩ := q7 _ (List.getElem_mem (show n / 49 < L7.length by omega))
  generalize L7[n % 7]'(by omega) = c29 at m29 p29 k29
  generalize L7[n / 7 % 7]'(by omega) = c31 at m31 p31 k31
  generalize L7[n / 49]'(by omega) = c33 at m33 p33 k33
  refine Hs.litE st [(1, c29), (3, c31), (7, c33)] [(1, x29, ()), (3, x31, ()), (7, x33, ())] 3 rfl rfl rfl (fun i h1 h2 => by
    match i, h1 with
    | 0, _ => exact m29
    | 1, _ => exact m31
    | 2, _ => exact m33) fun b34 h2 st => ?_
  have hR := right3 k29 k31 k33
  have hlen := len3 p29 p31 p33
  have hll : ([((1 : Int), c29), (3, c31), (7, c33)] : List Ent).length = 3 := rfl
  generalize ([((1 : Int), c29), (3, c31), (7, c33)] : List Ent) = l at st hR hlen hll
  have hl1 : ∀ x ∈ l, x.2.length ≤ 1000 := fun x hx => by have := hlen x hx; omega
  have hfu : fuelE l ≤ 1000 := by have := fuelE_le hlen; omega
  clear m29 m31 m33 k29 k31 k33 p29 p31 p33
  obtain ⟨G1, eG1⟩ : ∃ G1, G1 = G ++ [ent l ⟨some ⟨b34, 0, none⟩, 3, 3⟩] := ⟨_, rfl⟩
  rw [← eG1] at st
  have g1 : ∀ A ∈ G, A ∈ G1 := fun A hA => by rw [eG1]; exact List.mem_append_left _ hA
  have mE : ent l ⟨some ⟨b34, 0, none⟩, 3, 3⟩ ∈ G1 := by rw [eG1]; simp
  have r12 := r12.mono g1
  have r6 := r6.mono g1
  refine lfp_invh (I := fun m σ h' => ∃ (i : Nat) (u : Bool), σ = ((i : Int), u, ()) ∧ i ≤ 12 ∧ Hs [([], h0)] G1 [] h' ∧ m = 12 - i) ⟨_, 0, u, rfl, by omega, st, rfl⟩ ?_
  clear st
  rintro m σ h3 Y ⟨i, u2, rfl, hi, st, rfl⟩ hY
  simp only
  by_cases hlt2 : i < 12
  rotate_left
  · refine brF (decide_eq_false (by omega)) ?_
    rw [inc_i (by omega)]
    exact hX _ _ _ ⟨n + 1, u2, rfl, by omega, st.less g1, rfl⟩ (by omega)
  clear hX
  refine brT (decide_eq_true (by omega)) ?_
  refine r12.rd st (i := i) (by omega) fun x38 m38 => ?_
  obtain ⟨p38, k38⟩ := q12 _ (List.getElem_mem (show i < L12.length by omega))
  generalize L12[i]'(by omega) = c38 at m38 p38 k38
  have s1 : Int.tmod (IntKind.wrap .i64 ((n : Int) + (i : Int))) (6 : Int) = (((n + i) % 6 : Nat) : Int) := by
    rw [show (n : Int) + (i : Int) = ((n + i : Nat) : Int) by omega, wrap_i64 (by omega) (by omega)]; rfl
  have s2 : Int.tmod (IntKind.wrap .i64 ((n : Int) + (IntKind.wrap .i64 ((2 : Int) * (i : Int))))) (6 : Int) = (((n + 2 * i) % 6 : Nat) : Int) := by
    rw [wrap_i64 (x := 2 * (i : Int)) (by omega) (by omega), show (n : Int) + 2 * (i : Int) = ((n + 2 * i : Nat) : Int) by omega, wrap_i64 (by omega) (by omega)]; rfl
  have s3 : Int.tmod (IntKind.wrap .i64 ((i : Int) + (4 : Int))) (6 : Int) = (((i + 4) % 6 : Nat) : Int) := by
    rw [show (i : Int) + 4 = ((i + 4 : Nat) : Int) by omega, wrap_i64 (by omega) (by omega)]; rfl
  have s4 : Int.tmod (IntKind.wrap .i64 ((n : Int) + (IntKind.wrap .i64 ((5 : Int) * (i : Int))))) (6 : Int) = (((n + 5 * i) % 6 : Nat) : Int) := by
    rw [wrap_i64 (x := 5 * (i : Int)) (by omega) (by omega), show (n : Int) + 5 * (i : Int) = ((n + 5 * i : Nat) : Int) by omega, wrap_i64 (by omega) (by omega)]; rfl
  rw [nz_ok (by decide), s1]
  refine r6.rd st (i := (n + i) % 6) (by omega) fun x40 m40 => ?_
  rw [nz_ok (by decide), s2]
  refine r6.rd st (i := (n + 2 * i) % 6) (by omega) fun x42 m42 => ?_
  rw [nz_ok (by decide), s3]
  refine r6.rd st (i := (i + 4) % 6) (by omega) fun x44 m44 => ?_
  refine Hs.litN st [(1, x40, ()), (3, x42, ()), (7, x44, ())] 3 rfl rfl fun b45 h4 st => ?_
  have hps : ∀ k (hk : k < ([(1, x40, ()), (3, x42, ()), (7, x44, ())] : List tPr.T).length), ∃ c : List Int, c.length ≤ 3 ∧ li c ([(1, x40, ()), (3, x42, ()), (7, x44, ())] : List tPr.T)[k].2.1 ∈ G1 := fun k hk => by
    match k, hk with
    | 0, _ => exact ⟨_, q6 _ (List.getElem_mem _), m40⟩
    | 1, _ => exact ⟨_, q6 _ (List.getElem_mem _), m42⟩
    | 2, _ => exact ⟨_, q6 _ (List.getElem_mem _), m44⟩
  have hpl : ([(1, x40, ()), (3, x42, ()), (7, x44, ())] : List tPr.T).length = 3 := rfl
  generalize ([(1, x40, ()), (3, x42, ()), (7, x44, ())] : List tPr.T) = ps at st hps hpl
  clear m40 m42 m44
  obtain ⟨G2, eG2⟩ : ∃ G2, G2 = G1 ++ [osn ty_rat_Group 2 tPr.vals ps ⟨some ⟨b45, 0, none⟩, 3, 3⟩] := ⟨_, rfl⟩
  rw [← eG2] at st
  have g2 : ∀ A ∈ G1, A ∈ G2 := fun A hA => by rw [eG2]; exact List.mem_append_left _ hA
  have mP : osn ty_rat_Group 2 tPr.vals ps ⟨some ⟨b45, 0, none⟩, 3, 3⟩ ∈ G2 := by rw [eG2]; simp
  have st := st.niln ty_rat_Group 2 tPr.vals none
  simp only [List.nil_append] at st
  refine lfp_invh (I := fun m σ h' => ∃ (k : Nat) (gs : List Grp) (gps : List tPr.T) (so : Sl), σ = ((k : Int), so, ()) ∧ k ≤ 3 ∧ gps.map (·.1) = gs.map (·.1) ∧ (∀ j (h1 : j < gs.length) (h2 : j < gps.length), li gs[j].2 gps[j].2.1 ∈ G1) ∧
      (∀ g ∈ gs, g.2.length ≤ 3) ∧ gs.length ≤ k ∧ Hs [([], h0)] G2 [osn ty_rat_Group 2 tPr.vals gps so] h' ∧ m = 3 - k)
    ⟨_, 0, [], [], ⟨none, 0, 0⟩, rfl, by omega, rfl, fun j h1 => by simp at h1, by simp, by simp, st, rfl⟩ ?_
  clear st
  rintro m σ h5 Z ⟨k, gs, gps, so, rfl, hk, hids, hgm, hgl, hgk, st, rfl⟩ hZ
  simp only
  have hgpl : gps.length = gs.length := by simpa using congrArg List.length hids
  by_cases hlt3 : k < 3
  · refine brT (decide_eq_true (by omega)) ?_
    refine rdN (τ := tPr) (s := ⟨some ⟨b45, 0, none⟩, 3, 3⟩) ((st.fzm mP).rsn widePr) (i := k) (by omega) ?_
    obtain ⟨ck, hck, mk⟩ := hps k (by omega)
    generalize ps[k]'(by omega) = x49 at mk
    obtain ⟨xi, xs, _⟩ := x49
    simp only at mk ⊢
    refine Hs.pr (x := xi) (s' := xs) st fun b50 h6 x6 st => ?_
    simp only [List.cons_append, List.nil_append] at st
    rw [ge0_ok (by omega)]
    have next : ∀ (gs2 : List Grp) (gps2 : List tPr.T) (so2 : Sl) (h' : Heap), gps2.map (·.1) = gs2.map (·.1) → (∀ j (h1 : j < gs2.length) (h2 : j < gps2.length), li gs2[j].2 gps2[j].2.1 ∈ G1) → (∀ g ∈ gs2, g.2.length ≤ 3) → gs2.length ≤ k + 1 → Hs [([], h0)] G2 [osn ty_rat_Group 2 tPr.vals gps2 so2] h' →
        Z (IntKind.wrap .i64 ((k : Int) + 1), so2, ()) h' := fun gs2 gps2 so2 h' a b c d st => by
      rw [inc_i (by omega)]
      exact hZ _ _ _ ⟨k + 1, gs2, gps2, so2, rfl, by omega, a, b, c, d, st, rfl⟩ (by omega)
    refine jn_in fun J hJ => ?_
    generalize ((bAnd .i64 (Int.fdiv (IntKind.wrap .i64 ((n : Int) + (IntKind.wrap .i64 ((i : Int) * (3 : Int))))) (2 ^ (min ((k : Int)).toNat 64))) (1 : Int)) == (1 : Int)) = bb
    cases bb with
    | false => exact brF rfl (hJ _ _ (next gs gps so _ hids hgm hgl (by omega) (st.drop 1 rfl)))
    | true =>
      refine brT rfl ?_
      refine ldRow (τ := tPr) (x := (xi, xs, ())) (st.blk 1 rfl) ?_
      refine st.nw fun b54 h7 st => ?_
      simp only [List.cons_append, List.nil_append] at st
      refine Hs.apdN (v := ((xi, xs, ()) : tPr.T)) st widePr (by decide) 0 2 rfl rfl (by decide) (fun v hv => by
        have hv : v ∈ [Value.int .i64 xi, .slice xs.a xs.len xs.cap] := hv
        simp only [List.mem_cons, List.not_mem_nil, or_false] at hv
        rcases hv with rfl | rfl <;> rfl) (by omega) (by decide) rfl fun s55 h8 st => hJ _ _ ?_
      simp only [List.set_cons_zero] at st
      refine next (gs ++ [(xi, ck)]) (gps ++ [(xi, xs, ())]) s55 _ (by rw [List.map_append, List.map_append, hids]; rfl) (fun j h1 h2 => ?_) (fun g hg => ?_) (by simp; omega) ((st.drop 2 rfl).drop 1 rfl)
      · by_cases hj : j < gs.length
        · rw [List.getElem_append_left hj, List.getElem_append_left (by omega)]; exact hgm j hj (by omega)
        · have : j = gs.length := by simp at h1; omega
          subst this
          rw [List.getElem_append_right (by omega), List.getElem_append_right (by omega)]
          simp only [Nat.sub_self, List.getElem_cons_zero, hgpl]; exact mk
      · rcases List.mem_append.1 hg with hg | hg
        · exact hgl g hg
        · simp only [List.mem_singleton] at hg; subst hg; exact hck
  refine brF (decide_eq_false (by omega)) ?_
  clear hZ
  rw [nz_ok (by decide), s4]
  refine (r6.mono g2).rd st (i := (n + 5 * i) % 6) (by omega) fun x57 m57 => ?_
  have p57 := q6 _ (List.getElem_mem (show (n + 5 * i) % 6 < L6.length by omega))
  generalize L6[(n + 5 * i) % 6]'(by omega) = c57 at m57 p57
  have aG : At h5 (ent gs so) := rsp_at hgpl ((st.own 0 rfl).rsn widePr) fun j h1 h2 => ⟨by
    have := congrArg (fun l => l[j]?) hids
    simpa [h1, h2] using this, st.fzm (g2 _ (hgm j h1 h2))⟩
  refine call_of (checks_c (l := l) (sa := ⟨some ⟨b34, 0, none⟩, 3, 3⟩) (st.fzm (g2 _ mE)) (st.fzm (g2 _ m38)) (st.fzm m57) aG (by omega) hl1 (by omega) (by omega) (by omega) (fun g hg => by have := hgl g hg; omega)) ?_
  rintro _ h6 ⟨rfl, x6⟩
  have st := ((st.ext x6).drop 0 rfl).less g2
  simp only [List.eraseIdx_cons_zero] at st
  refine jn_in fun J hJ => brF rfl ?_
  refine call_of (searches_c (l := l) (s := ⟨some ⟨b34, 0, none⟩, 3, 3⟩) (st.fzm mE) (st.fzm m38) (by omega) hl1 (by omega) hfu) ?_
  rintro _ h7 ⟨rfl, x7⟩
  have st := st.ext x7
  refine hJ _ _ ?_
  clear J hJ
  refine jn_in fun J hJ => brF rfl ?_
  rw [nz_ok (by decide)]
  refine call_of (tells_c (l := l) (s := ⟨some ⟨b34, 0, none⟩, 3, 3⟩) (st.fzm mE) (by omega) hl1 _) ?_
  rintro _ h8 ⟨rfl, x8⟩
  have st := st.ext x8
  refine hJ _ _ (brF rfl ?_)
  clear J hJ
  refine call_of (Search_c (l := l) (s := ⟨some ⟨b34, 0, none⟩, 3, 3⟩) (st.fzm mE) (st.fzm m38) (by omega) (by omega) (by omega)) ?_
  rintro _ h9 ⟨sL, sH, sG, rfl, nL, nH, nG, x9⟩
  obtain ⟨sf1, sf2, sf3, sf4⟩ := search_form (l := l) (c := c38)
  obtain ⟨l1, l2, l3⟩ := search_lens2 (l := l) (c := c38) hR (by omega) hfu
  have serr := search_err (l := l) (c := c38) hR (by omega) k38
  generalize searchP l c38 = R at *
  obtain ⟨⟨Ls, Hi, Gs⟩, kd, ok, er⟩ := R
  simp only at nL nH nG sf1 sf2 sf3 sf4 l1 l2 l3 serr ⊢
  subst serr
  have hLl : Ls.length ≤ 1000 := by rcases sf2 with e | e <;> (rw [e]; first | omega | decide)
  have st := Hs.fzNew (Bs := [lo Ls sL, nio' Hi sH, ent Gs sG]) st x9 (by
    intro B hB
    simp only [List.mem_cons, List.not_mem_nil, or_false] at hB
    rcases hB with rfl | rfl | rfl
    · exact nL
    · exact nH
    · exact nG)
  refine st.nw fun b64 h10 st => ?_
  simp only [List.cons_append, List.nil_append, addr_add, Nat.zero_add] at st ⊢
  refine st.st1 0 0 rfl (by simp) fun h11 st => ?_
  refine st.st1 0 1 rfl (by simp) fun h11 st => ?_
  refine st.st1 0 2 rfl (by simp) fun h11 st => ?_
  simp only [List.set_cons_zero, List.set_cons_succ] at st
  have next : ∀ {h'}, Hs [([], h0)] (G1 ++ [lo Ls sL, nio' Hi sH, ent Gs sG]) [stpC b64 sL sH sG] h' → Y (IntKind.wrap .i64 ((i : Int) + 1), u2, ()) h' := fun {h'} st => by
    rw [inc_i (by omega)]
    exact hY _ _ _ ⟨i + 1, u2, rfl, by omega, (st.drop 0 rfl).less fun A hA => List.mem_append_left _ hA, rfl⟩ (by omega)
  refine jn_in fun J hJ => brF rfl ?_
  refine jn_in fun J2 hJ2 => ?_
  cases ok with
  | false => exact brF rfl (hJ2 _ _ (hJ _ _ (brF rfl (next st))))
  | true =>
    refine brT rfl ?_
    refine ldRow (τ := .cons .sl (.cons .sl (.cons .sl .nil))) (x := (sL, sH, sG, ())) (st.blk 0 rfl) ?_
    refine call_of (checks_c (l := l) (sa := ⟨some ⟨b34, 0, none⟩, 3, 3⟩) (sl := sL) (sh := sH) (sg := sG) (c := Ls) (ids := Hi) (gs := Gs) (st.fzm (List.mem_append_left _ mE)) (st.fzm (A := lo Ls sL) (List.mem_append_right _ (by simp))).rsl (st.fzm (A := nio' Hi sH) (List.mem_append_right _ (by simp))).rsl (st.fzm (List.mem_append_right _ (by simp))) (by omega) hl1 hLl (by omega) (by omega) (fun g hg => by have := l3 g hg; omega)) ?_
    rintro _ h12 ⟨rfl, x12⟩
    have st := st.ext x12
    exact hJ2 _ _ (hJ _ _ (brF rfl (next st)))
abbrev S7 : List (List Int) := [[1, 2], [-1, 2], [1, -2], [-1, -2], [1], [-2], [1, -1]]
abbrev S12 : List (List Int) := [[], [1], [-1], [2], [-2], [1, 2], [2, 1], [-1, 2], [3, 1], [-3, -1], [1, -1], [-2, -2]]
abbrev S6 : List (List Int) := [[], [1], [2, 1], [3, 7], [7, 3, 1], [5]]
set_option maxRecDepth 20000 in
theorem ratSmall_F (h : Heap) (K : Bool → HP) (hK : ∀ x h', (x = true ∧ Ext [] h h') → K x h') : F_salvorlaw09_RatSmall K h := by
  show litsW ty_lits_Lit S7 (fun p7 => nw (p7.map Ty.sl.enc).toArray ty_clauses_Clause fun b7 => litsW ty_lits_Lit S12 (fun p12 => nw (p12.map Ty.sl.enc).toArray ty_clauses_Clause fun b19 => litsW ty_int S6 (fun p6 => nw (p6.map Ty.sl.enc).toArray ty_sl_int fun b25 => RsLoop b7 b19 b25 K))) h
  have st := Hs.start h [] (by simp)
  refine litsW_c _ st fun p7 G1 h1 hG1 hl1 hm1 st => ?_
  refine Hs.litR st p7 7 (by rw [hl1]; rfl) rfl fun b7 h2 st => ?_
  have r7 : Lits _ S7 ⟨some ⟨b7, 0, none⟩, 7, 7⟩ := ⟨p7, hl1, List.mem_append_right G1 (List.mem_singleton.2 rfl), fun i h1 h2 => List.mem_append_left _ (hm1 i h1 h2)⟩
  refine litsW_c _ st fun p12 G2 h3 hG2 hl2 hm2 st => ?_
  refine Hs.litR st p12 12 (by rw [hl2]; rfl) rfl fun b19 h4 st => ?_
  have r12 : Lits _ S12 ⟨some ⟨b19, 0, none⟩, 12, 12⟩ := ⟨p12, hl2, List.mem_append_right G2 (List.mem_singleton.2 rfl), fun i h1 h2 => List.mem_append_left _ (hm2 i h1 h2)⟩
  refine litsW_c _ st fun p6 G3 h5 hG3 hl3 hm3 st => ?_
  refine Hs.litR st p6 6 (by rw [hl3]; rfl) rfl fun b25 h6 st => ?_
  have r6 : Lits _ S6 ⟨some ⟨b25, 0, none⟩, 6, 6⟩ := ⟨p6, hl3, List.mem_append_right G3 (List.mem_singleton.2 rfl), fun i h1 h2 => List.mem_append_left _ (hm3 i h1 h2)⟩
  exact rsLoop_c st (r7.mono fun A hA => List.mem_append_left _ (hG3 _ (List.mem_append_left _ (hG2 _ hA)))) rfl (by decide +kernel) (r12.mono fun A hA => List.mem_append_left _ (hG3 _ hA)) rfl (by decide +kernel) r6 rfl (by decide) fun h' x => hK _ _ ⟨rfl, x⟩
end Go.Proofs.S
namespace Go.Sx
open Go Go.ChangeShapes Go.WideShapes Go.ChangeAt Go.RowKit
section
variable {H : Type} {enc : TypeId × Value → H} {P : Program} {W : World}
end
end Go.Sx
namespace Go.Proofs.YtjkgncibelojnaaGreat
open Go Go.Sx Go.ChangeShapes Go.WideShapes Go.ChangeAt Go.RowKit Go.Proofs
theorem own_ : ownKnob Tryz.prog.godebug = none := by kernel_rfl
theorem laidOut_ : laidOutB Tryz.prog = true := by kernel_rfl
variable {H : Type} {enc : TypeId × Value → H} {W : World} {base : Nat} {v : Value} {d : DataW H} {p : List MemPlace}
end Go.Proofs.YtjkgncibelojnaaGreat
