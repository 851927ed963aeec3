/-
  OrderYields.
-/
import Derived.Test.YtkfdfbgceockpaaOrdHs
set_option linter.unusedVariables false
namespace Go.Proofs.Ord
open Go Go.Sx Go.Proofs

theorem Hs.all {fr : Fr} {G As : List Asn} {h : Heap} (st : Hs fr G As h) (o : Nat) {K : Value → HP}
    (hK : ∀ b h', Hs fr G (As ++ [cl b 24 [.pointer (pt o)]]) h' → K (.func (.func 39) #[] #[.pointer (pt b)]) h') :
    callT Try.prog fn_order_Order_All #[.pointer (pt o)] .val K h := by
  refine call_of (all_c o h) ?_
  rintro x h' ⟨rfl, rfl⟩
  exact Hs.nw st (cs := #[.pointer (pt o)]) (t := 24) (K := fun b => K (.func (.func 39) #[] #[.pointer (pt b)])) hK

theorem g_app {pre r : List Int} {x : Int} {L : List Int} (e : pre ++ x :: r = L) : pre.length < L.length ∧ L[pre.length]? = some x ∧ L.drop pre.length = x :: r := by
  subst e
  refine ⟨by simp, by simp, by simp⟩

theorem orderYields_F {h : Heap} {a : Sl} {p : Int} (hb : Byts h a.a a.len) (hc : a.len ≤ a.cap) (hp0 : 0 ≤ p) (hp1 : p < 256) :
    ∀ K : Bool → HP, (∀ x h', (x = true ∧ Ext [] h h') → K x h') → F_salvorlaw11_OrderYields a p K h := by
  intro K hK
  unfold F_salvorlaw11_OrderYields
  have st := Hs.start h [] (by simp)
  refine st.nw fun b0 h1 st => ?_
  refine st.nw fun b1 h2 st => ?_
  refine put_Hs st (hb.ext (st.frame (by simp))) hc fun o act step L h3 st hstep hact => ?_
  refine st.nw fun b3 h4 st => ?_
  refine st.st1 3 0 rfl (by simp) fun h5 st => ?_
  simp only [Bool.not_true, brB_false]
  rw [st.ldp 3 0 rfl rfl]
  refine Hs.list st 2 rfl (by omega) fun s h6 st => ?_
  refine st.nw fun b7 h7 st => ?_
  refine st.st1 5 0 rfl (by simp) fun h8 st => ?_
  simp only [Bool.not_true, brB_false]
  refine st.nw fun b9 h9 st => ?_
  refine st.st1 6 0 rfl (by simp) fun h10 st => ?_
  rw [st.ldp 3 0 rfl rfl]
  refine Hs.all st o fun bc h11 st => ?_
  obtain ⟨S, rep, lim⟩ := Hs.rep st 2 rfl
  have hsl : s.len = L.length := osl_len (st.own 4 rfl)
  have srtd := rep.sorted
  have hmem := rep.mem
  have hlen := rep.len
  have hnd := srtd.nodup
  obtain ⟨n, hn⟩ : ∃ n : Nat, IntKind.wrap .i64 (Int.tmod p 13) = n := ⟨(p % 13).toNat, by
    rw [Int.tmod_eq_emod_of_nonneg hp0, wrap_i64 (by omega) (by omega)]; omega⟩
  refine jn_mid (M := fun _ h' => ∃ N act step L' s9, Hs [([], h)] [] [cl b0 5 [.int .u8 p], cl b1 4 [.bool false], repA o 12 act step L', cl b3 24 [.pointer (pt o)], osl 3 (.int .i64) L s, cl b7 35 [.slice s.a s.len s.cap], cl b9 3 [.int .i64 (N : Nat)], cl bc 24 [.pointer (pt o)]] h' ∧
      L'.length = L.length - N ∧ (N = n ∧ 0 < n ∧ n ≤ L.length ∨ N = L.length ∧ (n = 0 ∨ L.length < n)) ∧ s9 = ()) ?_ ?_
  · rintro _ h12 ⟨N, act, step, L', _, st, hl, hN, rfl⟩
    rw [st.lds 5 0 rfl rfl, st.ldi 0 0 rfl rfl]
    simp only [nz_ok (show (13 : Int) ≠ 0 by decide), hn]
    refine jn_mid (M := fun σ h' => σ.1 = (N : Int) ∧ h' = h12) ?_ ?_
    · rintro ⟨σ, ⟨⟩⟩ _ ⟨e, rfl⟩
      simp only at e
      subst e
      simp only
      rw [st.ldi 6 0 rfl rfl]
      simp only [beq_self_eq_true, brB_true]
      rw [st.ldp 3 0 rfl rfl, st.lds 5 0 rfl rfl]
      obtain ⟨S, rep, _⟩ := Hs.rep st 2 rfl
      refine call_of (lenR_c rep) ?_
      rintro _ _ ⟨rfl, rfl⟩
      rw [st.ck 5 0 rfl rfl]
      have e : ((L'.length : Int) == IntKind.wrap .i64 ((s.len : Int) - (N : Int))) = true := by
        rw [hsl, wrap_i64 (by omega) (by omega)]; simp; omega
      rw [e, brB_true]
      refine call_of (awake_c _) ?_
      rintro _ h13 ⟨rfl, x13⟩
      have st := st.ext x13
      refine st.st1 1 0 rfl (by simp) fun h14 st => ?_
      intro h15 hm
      have st := st.marked hm
      rw [st.ldb 1 0 rfl rfl]
      exact hK _ _ ⟨rfl, st.frame (by simp)⟩
    · intro J hJ
      rcases hN with ⟨rfl, h0, h1⟩ | ⟨rfl, h0⟩
      · have e : decide ((N : Int) > 0) = true := by simp; omega
        rw [e, brB_true]
        refine hJ _ _ ⟨?_, rfl⟩
        show (if (s.len : Int) < (N : Int) then (s.len : Int) else (N : Int)) = N
        rw [hsl]; split <;> omega
      · rcases h0 with rfl | h0
        · simp only [Int.natCast_zero, gt_iff_lt, Int.lt_irrefl, decide_false, brB_false]
          exact hJ _ _ ⟨by simp [hsl], rfl⟩
        · have e : decide ((n : Int) > 0) = true := by simp; omega
          rw [e, brB_true]
          refine hJ _ _ ⟨?_, rfl⟩
          show (if (s.len : Int) < (n : Int) then (s.len : Int) else (n : Int)) = L.length
          rw [hsl, if_pos (by omega)]
  · intro J hJ
    have kc := st.blk 7 rfl
    refine st.range (τ := τi) (fun pre x => ∃ r, pre.map (·.1) ++ x.1 :: r = L) (fun pre => pre.map (·.1) = L) [] (by simp) (fun h1 hn => all_iter (rep.ext hn.1 (by simp)) (kc.ext hn.1 (by simp)))
      (fun _ _ _ _ => rfl)
      (fun pre Bs => ∃ act step L', Bs = [cl b0 5 [.int .u8 p], cl b1 4 [.bool false], repA o 12 act step L', cl b3 24 [.pointer (pt o)], osl 3 (.int .i64) L s, cl b7 35 [.slice s.a s.len s.cap], cl b9 3 [.int .i64 (pre.length : Nat)], cl bc 24 [.pointer (pt o)]] ∧
        L'.Perm (L.drop pre.length) ∧ (n = 0 ∨ pre.length < n))
      (fun j Bs => j = .exit 0 ∧ ∃ act step L', Bs = [cl b0 5 [.int .u8 p], cl b1 4 [.bool false], repA o 12 act step L', cl b3 24 [.pointer (pt o)], osl 3 (.int .i64) L s, cl b7 35 [.slice s.a s.len s.cap], cl b9 3 [.int .i64 (n : Nat)], cl bc 24 [.pointer (pt o)]] ∧
        L'.length = L.length - n ∧ 0 < n ∧ n ≤ L.length)
      ⟨act, step, L, rfl, List.Perm.refl _, by simp; omega⟩ ?_ ?_ ?_ ?_
    · rintro pre ⟨x, ⟨⟩⟩ Bs B hb ⟨r, hr⟩ ⟨act, step, L', rfl, hp, hlt⟩ st next jump hnext hjump
      obtain ⟨hpl, hget, hdrop⟩ := g_app hr
      simp only [List.length_map] at hpl hget hdrop
      simp only
      rw [st.ldi 6 0 rfl rfl, st.lds 5 0 rfl rfl]
      have e1 : decide ((pre.length : Int) ≥ (s.len : Int)) = false := by rw [hsl]; simp; omega
      simp only [e1, brB_false]
      rw [st.lds 5 0 rfl rfl, st.ldi 6 0 rfl rfl]
      refine rd_ok (τ := .int .i64) (st.own 4 rfl).rsl hget ?_
      simp only [bne_self_eq_false, brB_false]
      rw [st.ldi 6 0 rfl rfl, inc64 (by omega)]
      refine st.st1 6 0 rfl (by simp) fun h12 st => ?_
      rw [st.ldp 3 0 rfl rfl]
      have hx := hmem x (List.mem_of_getElem? hget)
      have ew : IntKind.wrap .i64 ((13 : Int) - x) = 13 - x := wrap_i64 (by omega) (by omega)
      rw [ew]
      refine Hs.bump st 2 rfl (13 - x) (by omega) fun h13 st => ?_
      rw [if_pos (by omega)]
      simp only [bne_self_eq_false, brB_false]
      rw [st.ldp 3 0 rfl rfl]
      refine Hs.remove st 2 rfl x fun h14 st => ?_
      rw [if_pos hx]
      simp only [bne_self_eq_false, brB_false]
      rw [st.ldi 6 0 rfl rfl, st.ldi 0 0 rfl rfl]
      simp only [nz_ok (show (13 : Int) ≠ 0 by decide), hn]
      have hp' : ((srt (bumpA act 12 (13 - x) step) L').erase x).Perm (L.drop (pre.length + 1)) := by
        have h1 := ((srt_perm (bumpA act 12 (13 - x) step) L').trans hp).erase x
        rw [hdrop, List.erase_cons_head] at h1
        have : L.drop (pre.length + 1) = r := by
          rw [← List.drop_drop, hdrop]; rfl
        rw [this]; exact h1
      by_cases hN : pre.length + 1 = n
      · have e2 : (((pre.length + 1 : Nat) : Int) == (n : Int)) = true := by simp; omega
        rw [e2, brB_true]
        refine hjump _ _ _ ⟨rfl, bumpA act 12 (13 - x) step, bumpS act 12 (13 - x) step, (srt (bumpA act 12 (13 - x) step) L').erase x, ?_, ?_, by omega, by omega⟩ st
        · subst hN; rfl
        · rw [hp'.length_eq]; simp; omega
      · have e2 : (((pre.length + 1 : Nat) : Int) == (n : Int)) = false := by simp; omega
        rw [e2, brB_false]
        exact hnext _ _ ⟨bumpA act 12 (13 - x) step, bumpS act 12 (13 - x) step, (srt (bumpA act 12 (13 - x) step) L').erase x, by simp, by simpa using hp', by simp; omega⟩ st
    · rintro pre Bs h12 hf ⟨act, step, L', rfl, hp, hlt⟩ st
      have hpl : pre.length = L.length := by have := congrArg List.length hf; simpa using this
      refine hJ _ _ ⟨pre.length, act, step, L', _, st, ?_, .inr ⟨hpl, by omega⟩, rfl⟩
      rw [hp.length_eq]; simp
    · rintro Bs h12 ⟨hj, _⟩
      cases hj
    · rintro i id Kx hi hKx Bs h12 ⟨hj, act, step, L', rfl, hl, h0, h1⟩ st
      cases i with
      | zero =>
        simp at hKx
        subst hKx
        exact hJ _ _ ⟨n, act, step, L', _, st, hl, .inl ⟨rfl, h0, h1⟩, rfl⟩
      | succ i => simp at hKx

end Go.Proofs.Ord
