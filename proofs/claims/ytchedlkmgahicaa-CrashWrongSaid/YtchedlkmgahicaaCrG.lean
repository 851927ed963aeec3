/-
  The examples of the chapter; Made, picked, made: contracts.
-/
import Derived.Test.YtchedlkmgahicaaCrE
set_option linter.unusedVariables false
set_option linter.unusedSimpArgs false
namespace Go.Proofs.S
open Go Go.Sx Go.Proofs Go.Cr Go.Cl

variable {h : Heap} {l : List Ent} {k k2 : List Bool} {m m2 : List Int} {s s2 s3 : Sl} {fr : Fr} {G As : List Asn}

def l3 : List Ent := [(0, 5, 0, ()), (1, 6, 0, ()), (0, 7, 1, ())]

theorem rows_at {b : Nat} {t0 : TypeId} {ps : List Sl} {xs : List (List Int)} (hl : ps.length = xs.length) (hb : Blk h b t0 (ps.map Ty.sl.enc)) (hx : ∀ i (h1 : i < xs.length) (h2 : i < ps.length), At h (lw xs[i] ps[i])) {n : Nat} (hn : n = ps.length) :
    At h (rsg (fun c p => lw c p) xs ⟨some ⟨b, 0, none⟩, n, n⟩) := by
  subst hn
  refine rsg_at hl ⟨[b], osl_rsl (t := t0) (.inl ⟨b, [], rfl, rfl, by simpa using hb⟩)⟩ hx

theorem awake_c : callT Try.prog fn_salvorlaw35_awake #[] .bool (fun r h' => r = true ∧ Ext [] h h') h := by
  refine callT_gen fun K hK => S_salvorlaw35_awake K ?_
  unfold F_salvorlaw35_awake
  have st := Hs.start h [] (by simp)
  refine st.nw fun b0 h0 st => ?_
  have st := st.asSn 0 3 tE.vals l3 rfl rfl
  simp only [List.nil_append, List.set_cons_zero] at st
  have st := st.freeze 0 rfl
  simp only [List.nil_append, List.eraseIdx_cons_zero] at st
  have hE : ∀ {As h'}, Hs [([], h)] [osn ty_disk_Entry 3 tE.vals l3 ⟨some ⟨b0, 0, none⟩, l3.length, l3.length⟩] As h' → At h' (le l3 ⟨some ⟨b0, 0, none⟩, 3, 3⟩) := fun st => (st.fz 0 rfl).rsn wideE
  refine call_of (count_c (hE st) (by decide)) ?_
  rintro r h1 ⟨er, x⟩
  have er : r = (5, 0, ()) := er.trans (by decide +kernel)
  subst er
  have st := st.ext x
  refine st.nw fun b2 h2 st => ?_
  have st := st.asSl 0 u32.enc [3, 3] rfl rfl
  refine st.nw fun b3 h3 st => ?_
  have st := st.asSl 1 Ty.bool.enc [true, true, false] rfl rfl
  simp only [List.nil_append, List.cons_append, List.set_cons_zero, List.set_cons_succ] at st
  refine call_of (Apply_c (hE st) (st.own 1 rfl).rsl (st.own 0 rfl).rsl (by decide) (by decide)) ?_
  rintro r h4 ⟨s4, er, n4, x⟩
  have e4 : applyC [3, 3] l3 [true, true, false] = ([5, 6], 0) := by decide +kernel
  rw [e4] at er n4
  subst er
  have st := st.new x n4
  refine st.nw fun b5 h5 st => ?_
  have st := st.asSl 3 u32.enc [3, 3] rfl rfl
  refine st.nw fun b6 h6 st => ?_
  have st := st.asSl 4 Ty.bool.enc [true, true, true] rfl rfl
  simp only [List.nil_append, List.cons_append, List.set_cons_zero, List.set_cons_succ] at st
  refine call_of (Apply_c (hE st) (st.own 4 rfl).rsl (st.own 3 rfl).rsl (by decide) (by decide)) ?_
  rintro r h7 ⟨s7, er, n7, x⟩
  have e7 : applyC [3, 3] l3 [true, true, true] = ([7, 6], 0) := by decide +kernel
  rw [e7] at er n7
  subst er
  have st := st.new x n7
  refine st.nw fun b8 h8 st => ?_
  have st := st.asSl 6 u32.enc [3, 3] rfl rfl
  simp only [List.nil_append, List.cons_append, List.set_cons_zero, List.set_cons_succ] at st
  refine call_of (results_c (hE st) (st.own 6 rfl).rsl (by decide) (by decide)) ?_
  rintro r h9 ⟨s9, er, n9, x⟩
  have e9 : resP [3, 3] l3 = ([[3, 3], [3, 6], [5, 3], [5, 6], [7, 6]], 0) := by decide +kernel
  rw [e9] at er n9
  subst er
  have st := st.new x n9
  refine st.nw fun b10 h10 st => ?_
  have st := st.asSl 8 Ty.bool.enc [true, true, true] rfl rfl
  simp only [List.nil_append, List.cons_append, List.set_cons_zero, List.set_cons_succ] at st
  refine call_of (drop_c (hE st) (st.own 8 rfl).rsl (by decide)) ?_
  rintro r h11 ⟨s11, er, n11, x⟩
  have e11 : dropP l3 [true, true, true] = ([[true, true, false]], 0) := by decide +kernel
  rw [e11] at er n11
  subst er
  have st := st.new x n11
  refine st.nw fun b12 h12 st => ?_
  have st := st.asSl 10 Ty.bool.enc [false, false, true] rfl rfl
  simp only [List.nil_append, List.cons_append, List.set_cons_zero, List.set_cons_succ] at st
  refine call_of (Valid_c (hE st) (st.own 10 rfl).rsl (by decide)) ?_
  rintro r h13 ⟨er, x⟩
  have er : r = (false, 0, ()) := er.trans (by decide +kernel)
  subst er
  have st := st.ext x
  refine st.nw fun b14 h14 st => ?_
  have st := st.asSl 11 Ty.bool.enc [true, false, true] rfl rfl
  simp only [List.nil_append, List.cons_append, List.set_cons_zero, List.set_cons_succ] at st
  refine call_of (Valid_c (hE st) (st.own 11 rfl).rsl (by decide)) ?_
  rintro r h15 ⟨er, x⟩
  have er : r = (false, 0, ()) := er.trans (by decide +kernel)
  subst er
  have st := st.ext x
  change brB false _ _ _
  rw [brB_false]
  change brB false _ _ _
  rw [brB_false]
  change brB false _ _ _
  rw [brB_false]
  change brB false _ _ _
  rw [brB_false]
  refine st.nw fun b16 h16 st => ?_
  have st := st.asSl 12 u32.enc [5, 6] rfl rfl
  simp only [List.nil_append, List.cons_append, List.set_cons_zero, List.set_cons_succ] at st
  refine call_of (equal_word (m2 := [5, 6]) (st.own 2 rfl).rsl (st.own 12 rfl).rsl (by decide)) ?_
  rintro _ hq ⟨rfl, rfl⟩
  change brB false _ _ _
  rw [brB_false]
  refine st.nw fun b18 h18 st => ?_
  have st := st.asSl 13 u32.enc [7, 6] rfl rfl
  simp only [List.nil_append, List.cons_append, List.set_cons_zero, List.set_cons_succ] at st
  refine call_of (equal_word (m2 := [7, 6]) (st.own 5 rfl).rsl (st.own 13 rfl).rsl (by decide)) ?_
  rintro _ hq ⟨rfl, rfl⟩
  change brB false _ _ _
  rw [brB_false]
  simp only
  rw [show ((s9.len : Int) != (5 : Int)) = false from by rw [rsg_len (st.own 7 rfl)]; rfl, brB_false]
  rw [show ((s11.len : Int) != (1 : Int)) = false from by rw [rsg_len (st.own 9 rfl).rsg]; rfl, brB_false]
  have hd := (st.own 9 rfl).rsg
  refine rdG (i := 0) hd (by decide) fun p20 hp20 => ?_
  refine st.nwX fun b22 h22 x22 st => ?_
  have hp20 := hp20.ext x22
  have st := st.asSl 14 Ty.bool.enc [true, true, false] rfl rfl
  simp only [List.nil_append, List.cons_append, List.set_cons_zero, List.set_cons_succ] at st
  refine call_of (equal_bool (k2 := [true, true, false]) hp20.rsl (st.own 14 rfl).rsl (by decide)) ?_
  rintro _ hq ⟨rfl, rfl⟩
  change brB false _ _ _
  rw [brB_false]
  refine st.nw fun b24 h24 st => ?_
  have st := st.asSl 15 u32.enc [3, 3] rfl rfl
  refine st.nw fun b25 h25 st => ?_
  have st := st.asSl 16 u32.enc [3, 6] rfl rfl
  refine st.nw fun b26 h26 st => ?_
  have st := st.asSl 17 u32.enc [5, 3] rfl rfl
  refine st.nw fun b27 h27 st => ?_
  have st := st.asSl 18 u32.enc [5, 6] rfl rfl
  refine st.nw fun b28 h28 st => ?_
  have st := st.asSl 19 u32.enc [7, 6] rfl rfl
  refine st.nw fun b29 h29 st => ?_
  simp only [List.nil_append, List.cons_append, List.set_cons_zero, List.set_cons_succ] at st
  have hR := rsgA_mono (J := fun c p => lw c p) (fun c p S h q => osl_rsl q) (st.own 7 rfl)
  have hW := rows_at (n := 5) (xs := [[3, 3], [3, 6], [5, 3], [5, 6], [7, 6]]) (ps := [⟨some ⟨b24, 0, none⟩, 2, 2⟩, ⟨some ⟨b25, 0, none⟩, 2, 2⟩, ⟨some ⟨b26, 0, none⟩, 2, 2⟩, ⟨some ⟨b27, 0, none⟩, 2, 2⟩, ⟨some ⟨b28, 0, none⟩, 2, 2⟩]) rfl (st.blk 20 rfl) (fun i h1 h2 => by
    match i, h1 with
    | 0, _ => exact (st.own 15 rfl).rsl
    | 1, _ => exact (st.own 16 rfl).rsl
    | 2, _ => exact (st.own 17 rfl).rsl
    | 3, _ => exact (st.own 18 rfl).rsl
    | 4, _ => exact (st.own 19 rfl).rsl
    | n + 5, h => exact absurd h (by simp)) rfl
  refine lfp_invh (I := fun μ σ h' => ∃ i : Nat, σ = ((i : Int), false, ()) ∧ h' = h29 ∧ μ = 5 - i) ⟨_, 0, rfl, rfl, rfl⟩ ?_
  rintro μ σ h' X ⟨i, rfl, rfl, em⟩ hX
  simp only
  by_cases hlt : i < 5
  · rw [decide_eq_true (show (i : Int) < 5 by omega), brB_true, inc_i (show i < 4611686018427387904 by omega)]
    refine rdG hR hlt fun p hp => ?_
    refine rdG hW hlt fun q hq => ?_
    refine call_of (equal_word hp hq ?_) ?_
    · match i, hlt with
      | 0, _ | 1, _ | 2, _ | 3, _ | 4, _ => exact (show (2 : Nat) ≤ 1099511627776 by decide)
      | n + 5, h => omega
    · rintro _ hq ⟨rfl, rfl⟩
      rw [decide_eq_true rfl]
      exact hX _ _ _ ⟨i + 1, rfl, rfl, rfl⟩ (by omega)
  · rw [decide_eq_false (show ¬ (i : Int) < 5 by omega), brB_false]
    exact hK _ _ ⟨rfl, st.frame (by simp)⟩

abbrev U8 (l : List Int) : Prop := ∀ n ∈ l, 0 ≤ n ∧ n ≤ 255
abbrev lu (l : List Int) (s : Sl) : Asn := rsl (Ty.int .u8).enc l s

def madeGo : Int → List Int → List Ent
  | _, [] => []
  | e, n :: l => (n % 3, n / 3 % 16, (if n ≥ 192 then e + 1 else e), ()) :: madeGo (if n ≥ 192 then e + 1 else e) l
def madeL (c : List Int) (most : Nat) : List Ent := madeGo 0 (c.take most)
def madeE : Int → List Int → Int
  | e, [] => e
  | e, n :: l => madeE (if n ≥ 192 then e + 1 else e) l

theorem madeGo_len : ∀ (e : Int) (l : List Int), (madeGo e l).length = l.length
  | _, [] => rfl
  | e, n :: l => by simp [madeGo, madeGo_len]
theorem madeGo_app : ∀ (e : Int) (a b : List Int), madeGo e (a ++ b) = madeGo e a ++ madeGo (madeE e a) b
  | _, [], b => rfl
  | e, n :: a, b => by simp only [List.cons_append, madeGo, madeE, madeGo_app _ a b]
theorem madeE_app : ∀ (e : Int) (a b : List Int), madeE e (a ++ b) = madeE (madeE e a) b
  | _, [], b => rfl
  | e, n :: a, b => by simp only [List.cons_append, madeE, madeE_app _ a b]
theorem madeE_le : ∀ (e : Int) (a : List Int), e ≤ madeE e a ∧ madeE e a ≤ e + a.length
  | e, [] => by simp [madeE]
  | e, n :: a => by
    unfold madeE
    have := madeE_le (if n ≥ 192 then e + 1 else e) a
    split at this <;> (simp only [List.length_cons]; split <;> omega)
theorem madeGo_right : ∀ {l : List Int} {e : Int}, U8 l → rightGo e (madeGo e l) = true
  | [], _, _ => rfl
  | n :: l, e, h => by
    have hn := h n (by simp)
    have ih := madeGo_right (l := l) (e := if n ≥ 192 then e + 1 else e) fun x hx => h x (by simp [hx])
    simp only [madeGo, rightGo, ih, Bool.and_true, Bool.and_eq_true, decide_eq_true_eq]
    refine ⟨by omega, by omega, ?_⟩
    split <;> omega
theorem madeL_len (c : List Int) (most : Nat) : (madeL c most).length = min most c.length := by unfold madeL; rw [madeGo_len, List.length_take]
theorem madeL_right {c : List Int} {most : Nat} (h : U8 c) (hm : most ≤ 4096) : rightL (madeL c most) = true := by
  unfold rightL
  rw [Bool.and_eq_true, decide_eq_true_eq, madeL_len]
  exact ⟨madeGo_right fun x hx => h x (List.mem_of_mem_take hx), by omega⟩

theorem wrap_u8 {x : Int} (h0 : 0 ≤ x) (h1 : x ≤ 255) : IntKind.wrap .u8 x = x := by
  have e : IntKind.wrap .u8 x = x % 256 := by simp [IntKind.wrap, IntKind.bits, IntKind.signed]
  rw [e]; omega
theorem wrap_u32 {x : Int} (h0 : 0 ≤ x) (h1 : x < 4294967296) : IntKind.wrap .u32 x = x := by
  have e : IntKind.wrap .u32 x = x % 4294967296 := by simp [IntKind.wrap, IntKind.bits, IntKind.signed]
  rw [e]; omega

theorem made_c {c : List Int} (hA : At h (lu c s)) (hu : U8 c) {most : Nat} (hm : most ≤ 4096) : callT Try.prog fn_salvorlaw35_Made #[.slice s.a s.len s.cap, .int .i64 (most : Int)] .sl (fun s' h' => New h.size h' (oe (madeL c most) s') ∧ Ext [] h h') h := by
  refine callT_gen fun K hK => S_salvorlaw35_Made (a0 := s) (a1 := (most : Int)) K ?_
  unfold F_salvorlaw35_Made
  have l1 := rsl_len hA
  have l2 := rsl_cap hA
  have em : (if (most : Int) < (s.len : Int) then (most : Int) else (s.len : Int)) = ((min most c.length : Nat) : Int) := by split <;> omega
  rw [em]
  refine ⟨Int.natCast_nonneg _, Int.ofNat_le.2 (show min most c.length ≤ s.cap by omega), ?_⟩
  rw [Int.toNat_natCast]
  have hS : At h (lu (c.take most) (slR ⟨s.a, s.len, s.cap⟩ 0 (min most c.length) 1)) := by
    have := rsl_sub hA (l := 0) (m := min most c.length) (by omega) (by omega)
    have e : List.take (min most c.length) c = c.take most := by
      rcases Nat.le_total c.length most with k | k
      · rw [Nat.min_eq_right k, List.take_length, List.take_of_length_le k]
      · rw [Nat.min_eq_left k]
    rw [e] at this; exact this
  generalize slR ⟨s.a, s.len, s.cap⟩ 0 (min most c.length) 1 = s0 at hS
  have l3 := rsl_len hS
  unfold madeL at hK
  have hu2 : U8 (c.take most) := fun n hn => hu n (List.mem_of_mem_take hn)
  have hl2 : (c.take most).length ≤ 4096 := by simp; omega
  generalize c.take most = d at *
  have st := (Hs.start h [] (by simp)).niln ty_disk_Entry 3 tE.vals none
  refine lfp_invh (I := fun m σ h' => ∃ (i : Nat) (s' : Sl), σ = ((i : Int), madeE 0 (d.take i), s', ()) ∧ i ≤ d.length ∧ Hs [([], h)] [] [oe (madeGo 0 (d.take i)) s'] h' ∧ m = d.length - i) ⟨_, 0, ⟨none, 0, 0⟩, rfl, by omega, st, rfl⟩ ?_
  clear st
  rintro m σ h2 X ⟨i, s', rfl, hi, st, em⟩ hX
  have hA1 := hS.ext (st.frame (by simp))
  simp only
  by_cases hlt : i < d.length
  · rw [show decide ((i : Int) < (s0.len : Int)) = true by rw [l3]; exact dlt_t hlt, brB_true, inc_i (show i < 4611686018427387904 by omega)]
    refine rdE (τ := .int .u8) hA1 hlt ?_
    obtain ⟨hx0, hx1⟩ := hu2 _ (List.getElem_mem hlt)
    have hE := madeE_le 0 (d.take i)
    have hEl : (d.take i).length ≤ 4096 := by simp; omega
    have eE : madeE 0 (d.take (i + 1)) = if d[i] ≥ 192 then madeE 0 (d.take i) + 1 else madeE 0 (d.take i) := by
      rw [take_succ_getE hlt, madeE_app]; rfl
    refine jn_mid (fun σ h' => σ = (madeE 0 (d.take (i + 1)), ()) ∧ h' = h2) ?_ ?_
    · rintro σ h3 ⟨rfl, rfl⟩
      refine ⟨by decide, by decide, by decide, ?_⟩
      refine st.nw fun b7 h4 st => ?_
      refine Hs.apdN (v := ((d[i] % 3, d[i] / 3 % 16, madeE 0 (d.take (i + 1)), ()) : Ent)) st wideE (by decide) 0 1 rfl ?_ (by decide) (fun u hu => ?_) (by rw [madeGo_len]; simp; omega) (by decide) rfl fun s8 h5 st => ?_
      · have e1 : IntKind.wrap .i64 (Int.tmod d[i] 3) = d[i] % 3 := by rw [Int.tmod_eq_emod_of_nonneg hx0, wrap_i64 (by omega) (by omega)]
        have e2 : IntKind.wrap .u32 (Int.tmod (IntKind.wrap .u8 (Int.tdiv d[i] 3)) 16) = d[i] / 3 % 16 := by
          rw [Int.tdiv_eq_ediv_of_nonneg hx0, wrap_u8 (by omega) (by omega), Int.tmod_eq_emod_of_nonneg (by omega), wrap_u32 (by omega) (by omega)]
        rw [e1, e2]; rfl
      · simp only [Ty.vals, Ty.ev, List.mem_cons, List.not_mem_nil, or_false] at hu
        rcases hu with rfl | rfl | rfl <;> rfl
      · refine hX _ _ _ ⟨i + 1, s8, rfl, by omega, ?_, rfl⟩ (by omega)
        have st := st.drop 1 rfl
        rw [take_succ_getE hlt, madeGo_app]
        rw [take_succ_getE hlt, madeE_app] at st
        exact st
    · intro J hJ
      by_cases h2 : d[i] ≥ 192
      · rw [decide_eq_true h2, brB_true, wrap_i64 (by omega) (by omega)]
        exact hJ _ _ ⟨by rw [eE, if_pos h2], rfl⟩
      · rw [decide_eq_false h2, brB_false]
        exact hJ _ _ ⟨by rw [eE, if_neg h2], rfl⟩
  · rw [show decide ((i : Int) < (s0.len : Int)) = false by rw [l3]; exact dlt_f hlt, brB_false]
    rw [List.take_of_length_le (by omega)] at st
    exact hK _ _ ⟨st.res (by simp) 0 rfl, st.frame (by simp)⟩

end Go.Proofs.S
