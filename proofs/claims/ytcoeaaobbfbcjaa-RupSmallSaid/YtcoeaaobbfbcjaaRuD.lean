/-
  The package rup: the clauses that move, the search's next step: contracts.
-/
import Derived.Test.YtcoeaaobbfbcjaaRuC
set_option linter.unusedVariables false
set_option linter.unusedSimpArgs false
namespace Go.Proofs.S
open Go Go.Sx Go.Proofs Go.Cl Go.Rp

variable {h : Heap} {c d A us : List Int} {cs ds hs : List (List Int)} {s s2 : Sl} {fr : Fr} {G As : List Asn} {b : Nat}

theorem hitG {S : List Nat} : ∀ (GG : List Asn), (∀ C ∈ GG, C ∈ G) → FzOk G S h → ∃ F : List Nat, (∀ b ∈ F, b < h.size ∧ b ∉ S) ∧ ∀ h1, Ext [] h h1 → ∀ C ∈ GG, ∃ SC, C.P SC h1 ∧ ∀ b ∈ SC, b ∈ F
  | [], _, _ => ⟨[], by simp, by simp⟩
  | C :: GG, hsub, hz => by
    obtain ⟨F, hF, hall⟩ := hitG GG (fun C hC => hsub C (List.mem_cons_of_mem _ hC)) hz
    obtain ⟨S1, p1, d1⟩ := hz C (hsub C (by simp))
    refine ⟨S1 ++ F, fun b hb => (List.mem_append.1 hb).elim (fun k => ⟨At.lt p1 b k, d1 b k⟩) (hF b), fun h1 x D hD => ?_⟩
    rcases List.mem_cons.1 hD with rfl | hD
    · exact ⟨S1, Asn.ext p1 x (by simp), fun b hb => List.mem_append_left _ hb⟩
    · obtain ⟨SC, p, q⟩ := hall h1 x D hD
      exact ⟨SC, p, fun b hb => List.mem_append_right _ (q b hb)⟩

/-- What moving hands over. -/
def mvGo (A : List Int) (kd : Int) : List (List Int) → Nat → List (Int × Int × Unit)
  | [], _ => []
  | c :: cs, i => if (lookP A c).1 = kd then ((i : Int), (lookP A c).2, ()) :: mvGo A kd cs (i + 1) else mvGo A kd cs (i + 1)
abbrev mvNx (L : List (Int × Int × Unit)) (pre : List (Int × Int × Unit)) (x : Int × Int × Unit) : Prop := ∃ r, L = pre ++ x :: r
abbrev mvFin (L pre : List (Int × Int × Unit)) : Prop := pre = L

theorem mvGo_head {kd : Int} : ∀ (cs : List (List Int)) (i : Nat), (mvGo A kd cs i).head? = (cs.findIdx? fun c => (lookP A c).1 == kd).map fun j => (((i + j : Nat) : Int), (lookP A (cs.getD j [])).2, ())
  | [], i => rfl
  | c :: cs, i => by
    simp only [mvGo, List.findIdx?_cons]
    by_cases hk : (lookP A c).1 = kd
    · rw [if_pos hk]; simp [hk]
    · rw [if_neg hk, mvGo_head cs (i + 1)]
      have : ((lookP A c).1 == kd) = false := by simpa using hk
      rw [this]
      simp only [Bool.false_eq_true, if_false, Option.map_map]
      congr 1
      funext j
      simp only [Function.comp]
      rw [show i + 1 + j = i + (j + 1) by omega]
      simp

abbrev mvV (b0 b1 b2 : Nat) : Value := .func (.func fn_rup_values_moving_1) #[] #[.pointer (some ⟨b1, 0, none⟩), .pointer (some ⟨b0, 0, none⟩), .pointer (some ⟨b2, 0, none⟩)]
abbrev mvG (b0 b1 b2 b : Nat) (A : List Int) (cs : List (List Int)) (s : Sl) (kd : Int) : List Asn :=
  [cl b1 ty_sl_clauses_Clause [.slice s.a s.len s.cap], cl b0 ty_rup_values [.map (some b)], cl b2 ty_uint8 [.int .u8 kd], vals b A, lli cs s]

theorem moving_iter {b0 b1 b2 : Nat} {kd : Int} {F : List Nat} (hG : ∀ C ∈ mvG b0 b1 b2 b A cs s kd, ∃ SC, C.P SC h ∧ ∀ b ∈ SC, b ∈ F) (hF : ∀ b ∈ F, b < h.size) (ho : okA A = true)
    (hr : ∀ c ∈ cs, rightC c = true) (hl : cs.length ≤ 1048576) :
    IterSpec Try.prog (.cons i64 (.cons i64 .nil)) (mvV b0 b1 b2) h (mvNx (mvGo A kd cs 0)) (mvFin (mvGo A kd cs 0)) F [] := by
  refine iter_of hG hF ?_
  intro At0 D B0 yl c it K hfin hD
  refine callF_func (S_rup_values_moving_1 (a0 := yl) (c0 := ⟨b1, 0, none⟩) (c1 := ⟨b0, 0, none⟩) (c2 := ⟨b2, 0, none⟩) K ?_)
  unfold F_rup_values_moving_1
  obtain ⟨S, st, close⟩ := it.open c
  rw [ld_sl (i := 0) (st.fblk 0 rfl) rfl]
  clear st close
  refine lfp_invh (I := fun μ σ h' => ∃ (i : Nat) (pre : List (Int × Int × Unit)) (B : List Nat), σ = ((i : Int), ()) ∧ i ≤ cs.length ∧ pre ++ mvGo A kd (cs.drop i) i = mvGo A kd cs 0 ∧ It h F At0 (mvG b0 b1 b2 b A cs s kd) [] pre B h' ∧ μ = cs.length - i)
    ⟨_, 0, [], B0, rfl, by omega, by simp, it, rfl⟩ ?_
  rintro μ σ h' X ⟨i, pre, B, rfl, hi, hp, it, rfl⟩ hX
  simp only
  obtain ⟨S, st, close⟩ := it.open c
  have ls := rsg_len (st.fz 4 rfl)
  by_cases hlt : i < cs.length
  · refine brT (by rw [ls]; exact decide_eq_true (by omega)) ?_
    rw [List.drop_eq_getElem_cons hlt] at hp
    simp only [mvGo] at hp
    refine rdG (st.fz 4 rfl) hlt fun p hrow => ?_
    rw [ld_val (i := 0) (st.fblk 1 rfl) rfl]
    have hri := hr _ (List.getElem_mem hlt)
    refine call_of (look_c (st.fz 3 rfl) ho hrow (rightC_rt hri) (by have := rightC_len hri; omega)) ?_
    rintro _ h2 ⟨rfl, e⟩; subst e
    rw [ld_int (i := 0) (st.fblk 2 rfl) rfl]
    refine jn_in fun J hJ => ?_
    by_cases hk : (lookP A cs[i]).1 = kd
    · rw [if_pos hk] at hp
      refine brT (by simpa using hk) ?_
      refine It.yield (τ := .cons i64 (.cons i64 .nil)) c it (x := ((i : Int), (lookP A cs[i]).2, ())) ⟨_, hp.symm⟩ (fun B' h3 it => ?_) (fun B' h3 hd => ?_)
      · refine hJ _ _ (brF rfl ?_)
        rw [inc_i (by omega)]
        exact hX _ _ _ ⟨i + 1, _, B', rfl, by omega, by rw [List.append_assoc]; exact hp, it, rfl⟩ (by omega)
      · exact hJ _ _ (brT rfl (hD B' h3 hd))
    · rw [if_neg hk] at hp
      refine brF (by simpa using hk) (hJ _ _ (brF rfl ?_))
      rw [inc_i (by omega)]
      exact hX _ _ _ ⟨i + 1, pre, B, rfl, by omega, hp, it, rfl⟩ (by omega)
  · refine brF (by rw [ls]; exact decide_eq_false (by omega)) ?_
    rw [List.drop_eq_nil_of_le (by omega)] at hp
    simp only [mvGo, List.append_nil] at hp
    exact hfin pre B h' hp it.1

/-- What next answers. -/
def nextR (A : List Int) (l : List (List Int)) : Int × Int := match nextP A l with
  | some (i, x) => ((i : Int), x)
  | none => (-1, 0)

theorem moving_range (st : Hs fr G As h) {b0 b1 b2 : Nat} {kd : Int} (hm : ∀ C ∈ mvG b0 b1 b2 b A cs s kd, C ∈ G) (ho : okA A = true) (hr : ∀ c ∈ cs, rightC c = true) (hl : cs.length ≤ 1048576) :
    ∀ S, FzOk G S h → FrOk fr S h → ∃ F, (∀ b ∈ F, b < h.size ∧ b ∉ S) ∧ ∀ h1, NewL h h1 → IterSpec Try.prog (.cons i64 (.cons i64 .nil)) (mvV b0 b1 b2) h1 (mvNx (mvGo A kd cs 0)) (mvFin (mvGo A kd cs 0)) F [] := by
  intro S hz _
  obtain ⟨F, hF, hall⟩ := hitG (mvG b0 b1 b2 b A cs s kd) hm hz
  exact ⟨F, hF, fun h1 hn => moving_iter (hall h1 hn.1) (fun b hb => Nat.lt_of_lt_of_le (hF b hb).1 hn.1.1) ho hr hl⟩

theorem next_c (hV : At h (vals b A)) (hA : At h (lli cs s)) (ho : okA A = true) (hr : ∀ c ∈ cs, rightC c = true) (hl : cs.length ≤ 1048576) :
    callT Try.prog fn_rup_values_next #[.map (some b), .slice s.a s.len s.cap] (.tup (.cons i64 (.cons i64 .nil))) (fun r h' => r = ((nextR A cs).1, (nextR A cs).2, ()) ∧ Ext [] h h') h := by
  refine callT_gen fun K hK => S_rup_values_next (a0 := .map (some b)) (a1 := s) K ?_
  unfold F_rup_values_next
  have st := Hs.start h [vals b A, lli cs s] (by simp [hV, hA])
  refine st.nw fun b0 h1 st => ?_
  refine st.nw fun b1 h2 st => ?_
  refine st.nw fun b2 h3 st => ?_
  let kinds : List Int := [2, 3]
  refine lfp_invh (I := fun μ σ h' => ∃ (i : Nat) (G' : List Asn), σ = ((i : Int), ()) ∧ i ≤ 2 ∧ (∀ j < i, ∀ c ∈ cs, (lookP A c).1 ≠ kinds.getD j 0) ∧ μ = 2 - i ∧
      Hs [([], h)] ([vals b A, lli cs s] ++ G') [cl b0 ty_int [.int .i64 0], cl b1 ty_lits_Lit [.int .i64 0], cl b2 ty_uint8 [.int .u8 2, .int .u8 3]] h')
    ⟨_, 0, [], rfl, by omega, by simp, rfl, st⟩ ?_
  rintro μ σ h' X ⟨i, G', rfl, hi, hno, rfl, st⟩ hX
  simp only
  by_cases hlt : i < 2
  · refine brT (decide_eq_true (by omega)) ?_
    have hk : ∃ kd : Int, kinds.getD i 0 = kd ∧ [Value.int .u8 2, .int .u8 3][i]? = some (.int .u8 kd) ∧ (i = 0 ∧ kd = 2 ∨ i = 1 ∧ kd = 3) := by
      match i, hlt with
      | 0, _ => exact ⟨2, rfl, rfl, .inl ⟨rfl, rfl⟩⟩
      | 1, _ => exact ⟨3, rfl, rfl, .inr ⟨rfl, rfl⟩⟩
    obtain ⟨kd, ek, ec, hik⟩ := hk
    rw [sx_ok (by omega) (by omega), addr_add, show 0 + ((i : Int)).toNat * 1 = i by simp, st.ldi 2 i rfl ec]
    refine S_rup_values_moving (a0 := .map (some b)) (a1 := s) (a2 := kd) _ ?_
    unfold F_rup_values_moving
    refine st.nw fun c0 h4 st => ?_
    refine st.nw fun c1 h5 st => ?_
    refine st.nw fun c2 h6 st => ?_
    have st := ((st.freeze 3 rfl).freeze 3 rfl).freeze 3 rfl
    simp only [List.append_assoc, List.cons_append, List.nil_append, List.eraseIdx_cons_succ, List.eraseIdx_cons_zero] at st
    have hm : ∀ C ∈ mvG c0 c1 c2 b A cs s kd, C ∈ vals b A :: lli cs s :: (G' ++ [cl c0 ty_rup_values [.map (some b)], cl c1 ty_sl_clauses_Clause [.slice s.a s.len s.cap], cl c2 ty_uint8 [.int .u8 kd]]) := by
      intro C hC
      simp only [mvG, List.mem_cons, List.not_mem_nil, or_false] at hC
      rcases hC with rfl | rfl | rfl | rfl | rfl <;> simp
    refine st.range (P := Try.prog) (τ := .cons i64 (.cons i64 .nil)) (mvNx (mvGo A kd cs 0)) (mvFin (mvGo A kd cs 0)) (moving_range st hm ho hr hl) (fun _ _ _ _ => rfl)
      (fun pre Bs => pre = [] ∧ Bs = [cl b0 ty_int [.int .i64 0], cl b1 ty_lits_Lit [.int .i64 0], cl b2 ty_uint8 [.int .u8 2, .int .u8 3]])
      (fun j Bs => j = .ret ∧ ∃ x, (mvGo A kd cs 0).head? = some x ∧ Bs = [cl b0 ty_int [.int .i64 x.1], cl b1 ty_lits_Lit [.int .i64 x.2.1], cl b2 ty_uint8 [.int .u8 2, .int .u8 3]])
      ⟨rfl, rfl⟩ ?_ ?_ ?_ ?_
    · rintro pre x Bs B hb ⟨r, hr2⟩ ⟨rfl, rfl⟩ st next jump hnext hjump
      refine st.st1 0 0 rfl (by simp) fun h7 st => ?_
      refine st.st1 1 0 rfl (by simp) fun h8 st => ?_
      exact hjump .ret _ _ ⟨rfl, x, by rw [hr2]; rfl, rfl⟩ st
    · rintro pre Bs h7 hfi ⟨rfl, rfl⟩ st
      have hnone : (mvGo A kd cs 0).head? = none := by rw [← show [] = mvGo A kd cs 0 from hfi]; rfl
      rw [mvGo_head, Option.map_eq_none_iff, List.findIdx?_eq_none_iff] at hnone
      rw [inc_i (by omega)]
      refine hX _ _ _ ⟨i + 1, _, rfl, by omega, fun j hj c hc => ?_, rfl, st⟩ (by omega)
      rcases Nat.lt_succ_iff_lt_or_eq.1 hj with h8 | rfl
      · exact hno j h8 c hc
      · rw [ek]; simpa using hnone c hc
    · rintro Bs h7 ⟨_, x, hx, rfl⟩ st
      refine fun h8 hm => ?_
      have st := st.marked hm
      rw [st.ldi 0 0 rfl rfl, st.ldi 1 0 rfl rfl]
      refine hK _ _ ⟨?_, st.frame (by simp)⟩
      rw [mvGo_head, Option.map_eq_some_iff] at hx
      obtain ⟨j, hj, rfl⟩ := hx
      rw [Nat.zero_add]
      rcases hik with ⟨rfl, rfl⟩ | ⟨rfl, rfl⟩
      · have e : nextP A cs = some (j, 0) := by unfold nextP; rw [hj]
        have hl2 : (lookP A (cs.getD j [])).2 = 0 := by
          obtain ⟨hlj, h1, _⟩ := List.findIdx?_eq_some_iff_getElem.1 hj
          refine look_snd ?_
          rw [getD_lt hlj, show (lookP A cs[j]).1 = 2 by simpa using h1]; decide
        unfold nextR; rw [e, hl2]
      · have e : nextP A cs = some (j, (lookP A (cs.getD j [])).2) := by
          unfold nextP
          rw [List.findIdx?_eq_none_iff.2 (fun c hc => by have h0 : (lookP A c).1 ≠ 2 := hno 0 (by omega) c hc; simpa using h0), hj]; rfl
        unfold nextR; rw [e]
    · intro i id K hi; simp at hi
  · refine brF (decide_eq_false (by omega)) ?_
    have : i = 2 := by omega
    subst this
    refine st.st1 0 0 rfl (by simp) fun h7 st => ?_
    refine st.st1 1 0 rfl (by simp) fun h8 st => ?_
    refine fun h9 hm => ?_
    have st := st.marked hm
    rw [st.ldi 0 0 rfl rfl, st.ldi 1 0 rfl rfl]
    refine hK _ _ ⟨?_, st.frame (by simp)⟩
    have e : nextP A cs = none := by
      unfold nextP
      rw [List.findIdx?_eq_none_iff.2 (fun c hc => by have h0 : (lookP A c).1 ≠ 2 := hno 0 (by omega) c hc; simpa using h0), List.findIdx?_eq_none_iff.2 (fun c hc => by have h0 : (lookP A c).1 ≠ 3 := hno 1 (by omega) c hc; simpa using h0)]; rfl
    unfold nextR; rw [e]

end Go.Proofs.S
