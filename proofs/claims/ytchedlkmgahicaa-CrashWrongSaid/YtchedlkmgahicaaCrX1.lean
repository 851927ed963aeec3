/-
  CrashWrong: its first part, and the whole.
-/
import Derived.Test.YtchedlkmgahicaaCrX
set_option linter.unusedVariables false
set_option linter.unusedSimpArgs false
namespace Go.Proofs.S
open Go Go.Sx Go.Proofs Go.Cr

variable {h h0 : Heap} {l bad : List Ent} {k : List Bool} {c : List Int} {s s2 s3 sc sb sk sw : Sl} {fr : Fr} {G As : List Asn} {rb : Nat} {v : Value} {K : Bool → HP}

theorem band_u8 {x : Int} (h0 : 0 ≤ x) (h1 : x ≤ 255) : ∃ q : Nat, bAnd .u8 x 1 = (q : Int) ∧ q < 2 := by
  obtain ⟨n, rfl⟩ := Int.eq_ofNat_of_zero_le h0
  refine ⟨n % 2, ?_, Nat.mod_lt _ (by decide)⟩
  unfold bAnd
  have e3 : (BitVec.ofInt 8 (n : Int) &&& BitVec.ofInt 8 1).toNat = n % 2 := by
    rw [BitVec.toNat_and]
    have e4 : (BitVec.ofInt 8 (n : Int)).toNat = n := by simp [BitVec.toNat_ofInt]; omega
    rw [e4, show (BitVec.ofInt 8 1).toNat = 1 from rfl, Nat.and_one_is_mod]
  show IntKind.wrap .u8 (((BitVec.ofInt 8 (n : Int) &&& BitVec.ofInt 8 1).toNat : Nat) : Int) = _
  rw [e3, wrap_u8 (by omega) (by omega)]

set_option maxRecDepth 20000 in
theorem crashWrong_F {a1 a2 : Int} (hA : At h (lu c s)) (hu : U8 c) (ha1 : 0 ≤ a1 ∧ a1 ≤ 255) (hK : ∀ h', Ext [] h h' → K true h') : F_salvorlaw35_CrashWrong_0 h.size K s a1 a2 h := by
  unfold F_salvorlaw35_CrashWrong_0
  have st := Hs.start h [lu c s] (by simp [hA])
  refine st.nw fun b0 h1 st => ?_
  refine call_of awake_c ?_
  rintro _ h2 ⟨rfl, x2⟩
  have st := st.ext x2
  refine brF rfl ?_
  refine call_of (made_c (most := 20) (st.fz 0 rfl) hu (by decide)) ?_
  rintro r3 h3 ⟨n3, x3⟩
  have st := st.new x3 n3
  simp only [List.nil_append, List.cons_append] at st
  have hr0 := madeL_right hu (most := 20) (by decide)
  have hlen : (madeL c 20).length ≤ 20 := by rw [madeL_len]; omega
  have hmax := madeL_max (c := c) (most := 20)
  generalize madeL c 20 = l at *
  have hr : rightL (l ++ [xE]) = true := right_snoc hr0 (by omega) (fun x hx => by have := hmax x hx; omega) (by decide)
  refine Hs.clone_ent st ((st.own 1 rfl).rsn wideE) (by omega) fun r4 h4 st => ?_
  refine st.nw fun b5 h5 st => ?_
  simp only [List.nil_append, List.cons_append] at st
  refine Hs.apdN (v := ((0, 0, 99, ()) : Ent)) st wideE (by decide) 2 3 rfl rfl (by decide) (leafE _) (by omega) (by decide) rfl fun s6 h6 st => ?_
  simp only [List.set_cons_zero, List.set_cons_succ] at st
  have st := st.drop 3 rfl
  simp only [List.eraseIdx_cons_succ, List.eraseIdx_cons_zero] at st
  have hBl : (l ++ [((0, 0, 99, ()) : Ent)]).length = l.length + 1 := by simp
  generalize hB : l ++ [((0, 0, 99, ()) : Ent)] = B at *
  have l6 : s6.len = B.length := osn_len (st.own 2 rfl)
  rw [nz_ok (by omega)]
  obtain ⟨n, rfl⟩ := Int.eq_ofNat_of_zero_le ha1.1
  have hn : n ≤ 255 := by omega
  have et : Int.tmod (IntKind.wrap .i64 (n : Int)) (s6.len : Int) = ((n % s6.len : Nat) : Int) := by rw [wrap_i64 (by omega) (by omega)]; rfl
  have hi : n % s6.len < B.length := by rw [← l6]; exact Nat.mod_lt _ (by omega)
  rw [et]
  refine jn_mid (M := fun _ h' => ∃ bad, rightL bad = false ∧ bad.length ≤ 100 ∧ Hs [([], h)] [lu c s] [rC b0 (.bool false), oe l r3, oe bad s6] h') ?_ ?_
  · rintro _ h7 ⟨bad, hb, hbl, st⟩
    exact p1 st hb hbl hr0 hr hlen hK
  · intro J hJ
    have hm : ∀ x, x ∈ B.set (n % s6.len) x := fun x => List.mem_of_getElem? (by rw [List.getElem?_set_self hi])
    by_cases he : bAnd .u8 (n : Int) 1 = 0
    · refine brT (by simpa using he) ?_
      refine st.nw fun b9 h7 st => ?_
      simp only [List.nil_append, List.cons_append] at st
      have st := st.asSl 3 i64.enc [(if (-1 : Int) < a2 then (-1 : Int) else a2), (if (16 : Int) > a2 then (16 : Int) else a2)] rfl rfl
      simp only [List.set_cons_zero, List.set_cons_succ] at st
      rw [ge0_ok (by decide)]
      have ef : Int.fdiv (n : Int) (2 ^ (min ((1 : Int)).toNat 8)) = ((n / 2 : Nat) : Int) := by
        show Int.fdiv (n : Int) 2 = _
        rw [Int.fdiv_eq_ediv_of_nonneg _ (by decide)]
        omega
      obtain ⟨q, hq, hq2⟩ := band_u8 (x := ((n / 2 : Nat) : Int)) (by omega) (by omega)
      rw [ef, hq]
      refine rdE (τ := i64) (s := ⟨some ⟨b9, 0, none⟩, 2, 2⟩) (st.own 3 rfl).rsl (i := q) hq2 ?_
      have hv : ([(if (-1 : Int) < a2 then (-1 : Int) else a2), (if (16 : Int) > a2 then (16 : Int) else a2)] : List Int)[q]'hq2 < 0 ∨ 16 ≤ ([(if (-1 : Int) < a2 then (-1 : Int) else a2), (if (16 : Int) > a2 then (16 : Int) else a2)] : List Int)[q]'hq2 := by
        match q, hq2 with
        | 0, _ => simp only [List.getElem_cons_zero]; split <;> omega
        | 1, _ => simp only [List.getElem_cons_zero, List.getElem_cons_succ]; split <;> omega
      generalize ([(if (-1 : Int) < a2 then (-1 : Int) else a2), (if (16 : Int) > a2 then (16 : Int) else a2)] : List Int)[q]'hq2 = w at hv
      have st := st.drop 3 rfl
      simp only [List.eraseIdx_cons_succ, List.eraseIdx_cons_zero] at st
      refine Hs.wrF0 st wideE 2 rfl hi (by decide) ((w, B[n % s6.len].2.1, B[n % s6.len].2.2.1, ()) : Ent) (.int .i64 w) rfl fun h8 st => hJ _ _ ⟨_, right_bad (hm _) (hv.elim .inl fun k => .inr (.inl k)), ?_, st⟩
      rw [List.length_set]; omega
    · refine brF (by simpa using he) ?_
      have hv : (if (-1 : Int) < a2 then (-1 : Int) else a2) < 0 := by split <;> omega
      generalize (if (-1 : Int) < a2 then (-1 : Int) else a2) = w at hv
      refine Hs.wrF st wideE 2 rfl hi 2 (by decide) ((B[n % s6.len].1, B[n % s6.len].2.1, w, ()) : Ent) (.int .i64 w) rfl fun h8 st => hJ _ _ ⟨_, right_bad (hm _) (.inr (.inr hv)), ?_, st⟩
      rw [List.length_set]; omega

end Go.Proofs.S
