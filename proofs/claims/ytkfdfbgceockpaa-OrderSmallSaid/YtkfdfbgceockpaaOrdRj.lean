/-
  The law's same, plays; OrderPlays.
-/
import Derived.Test.YtkfdfbgceockpaaOrdRi
set_option linter.unusedVariables false
set_option linter.unusedSimpArgs false
namespace Go.Proofs.OrdG
open Go Go.Sx Go.Proofs Go.Proofs.Ord

variable {fr : Fr} {G As : List Asn} {h : Heap} {act L : List Int} {s1 s2 : Sl} {n o : Nat} {step : Int}

theorem varsR_c {S : List Nat} (r : Rep h S o n act step L) : callT Try.prog fn_order_Order_Vars #[.pointer (pt o)] (.int .i64) (fun x h' => x = n ∧ h' = h) h := by
  obtain ⟨ab, hb, pb, H, Pl, rfl, r, c, hp, hl, hn, rfl, hbl⟩ := r
  obtain ⟨ha, ch, ra, rp, rc⟩ := r.common
  refine call_of (vars_c rc (by omega) (by omega)) ?_
  rintro x h' ⟨rfl, rfl⟩
  exact ⟨show (act.length : Int) - 1 = n by omega, rfl⟩

theorem same_F (st : Hs fr G [repA o n act step L] h) (hA : ri act.tail s1 ∈ G) (hI : ri (flags n L) s2 ∈ G) (hn : n ≤ 5000)
    (K : Bool → HP) (hK : ∀ Bs h', Hs fr G (repA o n act step L :: Bs) h' → K true h') :
    F_salvorlaw11_same (some ⟨o, 0, none⟩) (s1, s2, step, ()) K h := by
  unfold F_salvorlaw11_same
  simp only [addr_add, Nat.zero_add]
  obtain ⟨hl, hn0, hs, hb, lim⟩ := rep_facts st 0 rfl
  have l2 := rsl_len (st.fzm hI)
  rw [flags_len] at l2
  refine st.nw fun b0 h1 st => ?_
  refine st.ldr (τ := τr) 1 rfl (s1, s2, step, ()) rfl ?_
  refine refAll_c st hA hI hl (by omega) hs hb step fun sr h2 st => ?_
  refine Hs.list st 0 rfl (by omega) fun sl h3 st => ?_
  obtain ⟨S, rep, _⟩ := Hs.rep st 0 rfl
  refine call_of (peekR_c rep) ?_
  rintro _ h4 ⟨rfl, rfl⟩
  refine brF rfl ?_
  obtain ⟨b3, is3⟩ := osl_ISl0 (st.own 3 rfl)
  obtain ⟨b2, is2⟩ := osl_ISl0 (st.own 2 rfl)
  have hll := rep.len
  refine call_of (equal_c is3 is2 (by omega)) ?_
  rintro _ h5 ⟨rfl, e5⟩
  subst e5
  refine brF (by simp) ?_
  refine call_of (lenR_c rep) ?_
  rintro _ h6 ⟨rfl, e6⟩
  subst e6
  have lr := osl_len (st.own 2 rfl)
  refine brF (by simp [lr]) ?_
  rw [st.lds 1 1 rfl rfl]
  refine call_of (varsR_c rep) ?_
  rintro _ h7 ⟨rfl, e7⟩
  subst e7
  rw [st.ck 1 1 rfl rfl]
  refine brF (by simp [l2]) ?_
  rw [st.ldi 1 2 rfl rfl]
  refine call_of (stepR_c rep) ?_
  rintro x8 h8 ⟨ex8, e8⟩
  subst e8
  rw [ex8, st.ck 1 2 rfl rfl]
  refine brF (by simp) ?_
  refine brF (by simp [lr]) ?_
  refine st.ldr (τ := τr) 1 rfl (s1, s2, _, ()) rfl ?_
  refine firstL_c st (st.fzm hA) (st.fzm hI) hl (by omega) hs hb _ fun h9 st => ?_
  refine brF (by simp) ?_
  refine lfp_invh (I := fun m σ h' => ∃ (v : Nat) (bb : Bool), σ = ((v : Int), bb, ()) ∧ v ≤ n + 2 ∧ m = n + 2 - v ∧ Hs fr G [repA o n act step L, cl b0 ty_salvorref11_Order [.slice s1.a s1.len s1.cap, .slice s2.a s2.len s2.cap, .int .i64 step], oi L sr, osl 3 (.int .i64) L sl] h')
    ⟨_, 0, false, rfl, by omega, rfl, st⟩ ?_
  rintro m σ h' X ⟨v, bb, rfl, hv, rfl, st⟩ hX
  obtain ⟨S', rep, _⟩ := Hs.rep st 0 rfl
  rw [st.lds 1 1 rfl rfl, l2, inc_i (by omega)]
  simp only
  by_cases hlt : v ≤ n + 1
  · refine brT (by simp; omega) ?_
    refine call_of (activityR_c rep (v : Int)) ?_
    rintro _ h10 ⟨rfl, e10⟩
    subst e10
    refine jn_mid (M := fun t h'' => t = decide (¬ (1 ≤ (v : Int) ∧ (v : Int) ≤ n)) ∧ h'' = h10) ?_ ?_
    rotate_left
    · intro J hJ
      by_cases h1 : (v : Int) < 1
      · refine brT (by simpa using h1) (hJ _ _ ⟨?_, rfl⟩)
        symm; exact decide_eq_true (by omega)
      · refine brF (by simpa using h1) ?_
        rw [st.lds 1 1 rfl rfl, l2]
        refine hJ _ _ ⟨?_, rfl⟩
        simp; omega
    rintro _ h11 ⟨rfl, e11⟩
    subst e11
    refine jn_in fun J hJ => ?_
    have next : ∀ bb : Bool, J (bb, ()) h11 := by
      intro bb
      refine hJ _ _ ?_
      simp only
      rw [inc_i (by omega)]
      exact hX _ _ _ ⟨v + 1, bb, rfl, by omega, rfl, st⟩ (by omega)
    by_cases hin : 1 ≤ (v : Int) ∧ (v : Int) ≤ n
    · refine brF (decide_eq_false (not_not_intro hin)) ?_
      rw [if_pos hin, st.lds 1 0 rfl rfl, dec_i (by omega) (by omega)]
      refine riA (st.fzm hA) (i := v - 1) (by simp; omega) ?_
      rw [g_tail, show v - 1 + 1 = v by omega]
      refine brF (by simp) ?_
      refine brF (by simp) ?_
      rw [st.lds 1 1 rfl rfl]
      obtain ⟨a, ea, hca⟩ := rsl_cells (st.fzm hI) (i := v - 1) (x := g (flags n L) (v - 1)) (by rw [List.getElem?_eq_getElem (by rw [flags_len]; omega)]; simp [g, List.getD_eq_getElem?_getD, List.getElem?_eq_getElem (show v - 1 < (flags n L).length by rw [flags_len]; omega)])
      refine ⟨a, ea, by omega, by rw [l2]; omega, _, by rw [Int.toNat_natCast, Nat.mul_one]; exact hca, ?_⟩
      refine call_of (hasR_c rep (v : Int)) ?_
      rintro _ h12 ⟨rfl, e12⟩
      subst e12
      refine ⟨by rw [Int.toNat_natCast, Nat.mul_one]; exact hca, ?_⟩
      rw [st.ck 1 1 rfl rfl]
      refine brF ?_ (next _)
      rw [g_flags (by omega), show v - 1 + 1 = v by omega]
      by_cases hm : (v : Int) ∈ L
      · simp [hm]
      · simp [hm]
    · refine brT (decide_eq_true hin) ?_
      rw [if_neg hin]
      refine jn_in fun J2 hJ2 => ?_
      refine brF (by simp) ?_
      refine hJ2 _ _ ?_
      refine jn_in fun J3 hJ3 => ?_
      refine brF (by simp) ?_
      refine call_of (hasR_c rep (v : Int)) ?_
      rintro _ h12 ⟨rfl, e12⟩
      subst e12
      refine hJ3 _ _ ?_
      refine brF (decide_eq_false fun hm => hin (hb _ hm)) (next _)
  · refine brF (by simp; omega) ?_
    exact hK _ _ st

theorem set_same {α : Type} {As : List α} {k : Nat} {A : α} (h : As[k]? = some A) : As.set k A = As := by
  obtain ⟨hk, e⟩ := List.getElem?_eq_some_iff.1 h
  subst e; exact List.set_getElem_self hk

theorem same_c (st : Hs fr G As h) (k : Nat) (hk : As[k]? = some (repA o n act step L)) (hA : ri act.tail s1 ∈ G) (hI : ri (flags n L) s2 ∈ G) (hn : n ≤ 5000)
    {K : Bool → HP} (hK : ∀ h', Hs fr G As h' → K true h') :
    callT Try.prog fn_salvorlaw11_same #[.pointer (some ⟨o, 0, none⟩), .agg #[.slice s1.a s1.len s1.cap, .slice s2.a s2.len s2.cap, .int .i64 step]] .bool K h := by
  refine S_salvorlaw11_same (a0 := some ⟨o, 0, none⟩) (a1 := (s1, s2, step, ())) K ?_
  obtain ⟨S1, st1, back⟩ := st.within k hk
  refine same_F st1 hA hI hn K fun Bs h' st' => ?_
  have := (back _ _ _ st').dropR
  rw [set_same hk] at this
  exact hK _ this

theorem does_c (st : Hs fr G As h) (k : Nat) (hk : As[k]? = some (repA o n act step L)) (hA : ri act.tail s1 ∈ G) (hI : ri (flags n L) s2 ∈ G) (hn : n ≤ 1000000) (kind V times : Int) (hk0 : 0 ≤ kind) (hk1 : kind < 256) (ht0 : 0 ≤ times) (ht1 : times < 65536)
    {K : (τo.T × Bool × Unit) → HP}
    (hK : ∀ act' step' L' s1' s2' G' h', Hs fr (G ++ G') (As.set k (repA o n act' step' L')) h' → ri act'.tail s1' ∈ G ++ G' → ri (flags n L') s2' ∈ G ++ G' → K ((s1', s2', step', ()), true, ()) h') :
    callT Try.prog fn_salvorlaw11_does #[.pointer (some ⟨o, 0, none⟩), .agg #[.slice s1.a s1.len s1.cap, .slice s2.a s2.len s2.cap, .int .i64 step], .agg #[.int .u8 kind, .int .i64 V, .int .u16 times]] (.tup (.cons τo (.cons .bool .nil))) K h := by
  refine S_salvorlaw11_does (a0 := some ⟨o, 0, none⟩) (a1 := (s1, s2, step, ())) (a2 := (kind, V, times, ())) K ?_
  obtain ⟨S1, st1, back⟩ := st.within k hk
  refine does_F st1 hA hI hn kind V times hk0 hk1 ht0 ht1 K fun act' step' L' s1' s2' Bs h' st' m1 m2 => ?_
  have st2 := (back _ _ _ st').freezeR
  have gain : ∀ {fr : Fr} {G As : List Asn} {h : Heap} {xs : List Int} {s : Sl}, Hs fr G As h → oi xs s ∈ G → Hs fr (G ++ [ri xs s]) As h := by
    intro fr G As h xs s st hm
    obtain ⟨k, hk⟩ := List.getElem?_of_mem hm
    exact st.gain k hk fun S h p => ⟨S, osl_rsl p, fun b hb => hb⟩
  rcases m1 with m1 | m1 <;> rcases m2 with m2 | m2
  · exact hK _ _ _ _ _ _ _ st2 (List.mem_append_left _ m1) (List.mem_append_left _ m2)
  · have st3 := gain st2 (List.mem_append_right _ m2)
    rw [List.append_assoc] at st3
    exact hK _ _ _ _ _ _ _ st3 (List.mem_append_left _ m1) (by simp)
  · have st3 := gain st2 (List.mem_append_right _ m1)
    rw [List.append_assoc] at st3
    exact hK _ _ _ _ _ _ _ st3 (by simp) (List.mem_append_left _ m2)
  · have st3 := gain (gain st2 (List.mem_append_right _ m1)) (List.mem_append_left _ (List.mem_append_right _ m2))
    rw [List.append_assoc, List.append_assoc] at st3
    exact hK _ _ _ _ _ _ _ st3 (by simp) (by simp)

abbrev acts (l : List τa.T) (s : Sl) : Asn := rsn 3 τa.vals l s
def ActOk (x : τa.T) : Prop := 0 ≤ x.1 ∧ x.1 < 256 ∧ 0 ≤ x.2.2.1 ∧ x.2.2.1 < 65536

theorem flags_iota (n : Nat) : flags n (iota n) = List.replicate n 1 := by
  refine ext_g (by simp [flags_len]) fun i hi => ?_
  rw [flags_len] at hi
  rw [g_flags hi, if_pos (by unfold iota; exact List.mem_map.2 ⟨i, by simpa using hi, by omega⟩)]
  simp [g, List.getD_eq_getElem?_getD, hi]

theorem plays_c (st : Hs fr G As h) {l : List τa.T} {s : Sl} (hl : acts l s ∈ G) (hlen : l.length ≤ 1000000) (hok : ∀ x ∈ l, ActOk x) (a : Int) (ha : a ≤ 5000 ∨ 1048576 < a) {K : Bool → HP} (hK : ∀ h', Hs fr G As h' → K true h') :
    callT Try.prog fn_salvorlaw11_plays #[.int .i64 a, .slice s.a s.len s.cap] .bool K h := by
  refine S_salvorlaw11_plays (a0 := a) (a1 := s) K ?_
  unfold F_salvorlaw11_plays
  simp only [addr_add, Nat.zero_add]
  obtain ⟨st0, back0⟩ := st.beside
  have hs := rsn_len (st.fzm hl)
  by_cases hbad : a < 0 ∨ a > 1048576
  · refine call_of (new_bad a hbad h) ?_
    rintro _ h1 ⟨rfl, e1⟩
    subst e1
    refine jn_in fun J hJ => ?_
    have : J true h1 := by
      refine hJ _ _ (brT rfl ?_)
      refine jn_in fun J2 hJ2 => brT rfl (hJ2 _ _ ?_)
      exact hK _ st
    by_cases h0 : a < 0
    · exact brT (by simpa using h0) this
    · refine brF (by simpa using h0) ?_
      rw [decide_eq_true (by omega)]; exact this
  · obtain ⟨n, rfl⟩ : ∃ n : Nat, a = n := ⟨a.toNat, by omega⟩
    have hn : n ≤ 5000 := by omega
    refine call_of (new_c n (by omega) h) ?_
    rintro _ h1 ⟨o, S, rfl, rep, x1, hS⟩
    obtain ⟨S', r', hs', hcl⟩ := rep.norm
    have st := st0.new (A := repA o n (zeros (n + 1)) 1024 (iota n)) x1 ⟨S', ⟨r', Lim.new _, hcl⟩, fun b hb => hS b (hs' b hb)⟩
    refine jn_in fun J hJ => ?_
    refine brF (decide_eq_false (by omega)) ?_
    rw [decide_eq_false (by omega)]
    refine hJ _ _ (brF rfl ?_)
    refine jn_in fun J2 hJ2 => ?_
    refine brF rfl (hJ2 _ _ (brF rfl ?_))
    refine refNew_c st (by omega) fun sA sI h2 st => ?_
    have st := (st.froz 2 rfl).froz 1 rfl
    simp only [List.nil_append, List.cons_append, List.eraseIdx_cons_zero, List.eraseIdx_cons_succ, List.append_assoc] at st
    refine st.nw fun b8 h3 st => ?_
    refine st.st1 1 0 rfl (by simp) fun h4 st => ?_
    refine st.st1 1 1 rfl (by simp) fun h5 st => ?_
    refine st.st1 1 2 rfl (by simp) fun h6 st => ?_
    refine lfp_invh (I := fun m σ h' => ∃ (i : Nat) (bb : Bool) (s1 s2 : Sl) (act : List Int) (step : Int) (L : List Int), σ = ((i : Int), bb, ()) ∧ i ≤ l.length ∧ m = l.length - i ∧
        Hs [([], h)] (G ++ [ri act.tail s1, ri (flags n L) s2]) [repA o n act step L, cl b8 ty_salvorref11_Order [.slice s1.a s1.len s1.cap, .slice s2.a s2.len s2.cap, .int .i64 step]] h')
      ⟨_, 0, false, sA, sI, zeros (n + 1), 1024, iota n, rfl, by omega, rfl, ?_⟩ ?_
    · have e1 : (zeros (n + 1)).tail = List.replicate n 0 := by simp [zeros]
      rw [e1, flags_iota]
      refine st.less fun A hA => ?_
      simp only [List.mem_append, List.mem_cons, List.not_mem_nil, or_false] at hA ⊢
      rcases hA with h | rfl | rfl <;> simp_all
    rintro m σ h' X ⟨i, bb, s1, s2, act, step, L, rfl, hi, rfl, st⟩ hX
    simp only
    by_cases hlt : i < l.length
    · refine brT (by simp; omega) ?_
      refine rdN (τ := τa) (st.fzm (List.mem_append_left _ hl)) hlt ?_
      obtain ⟨k0, k1, k2, k3⟩ := hok l[i] (List.getElem_mem hlt)
      obtain ⟨x, ex⟩ : ∃ x, x = l[i] := ⟨_, rfl⟩
      rw [← ex] at k0 k1 k2 k3 ⊢
      refine st.nw fun b13 h7 st => ?_
      refine st.st1 2 0 rfl (by simp) fun h8 st => ?_
      refine st.st1 2 1 rfl (by simp) fun h9 st => ?_
      refine st.st1 2 2 rfl (by simp) fun h10 st => ?_
      refine st.ldr (τ := τr) 1 rfl (s1, s2, step, ()) rfl ?_
      refine st.ldr (τ := τa) 2 rfl (x.1, x.2.1, x.2.2.1, ()) rfl ?_
      refine does_c st 0 rfl (by simp) (by simp) (by omega) x.1 x.2.1 x.2.2.1 k0 k1 k2 k3 fun act' step' L' s1' s2' G' h11 st m1 m2 => ?_
      refine st.st1 1 0 rfl (by simp) fun h12 st => ?_
      refine st.st1 1 1 rfl (by simp) fun h13 st => ?_
      refine st.st1 1 2 rfl (by simp) fun h14 st => ?_
      have st := st.drop 2 rfl
      have st : Hs [([], h)] (G ++ [ri act'.tail s1', ri (flags n L') s2']) [repA o n act' step' L', cl b8 ty_salvorref11_Order [.slice s1'.a s1'.len s1'.cap, .slice s2'.a s2'.len s2'.cap, .int .i64 step']] h14 :=
        st.less fun A hA => by
          rcases List.mem_append.1 hA with h | h
          · simp [h]
          · rcases List.mem_cons.1 h with rfl | h
            · exact m1
            · simp at h; subst h; exact m2
      have next : ∀ h', Hs [([], h)] (G ++ [ri act'.tail s1', ri (flags n L') s2']) [repA o n act' step' L', cl b8 ty_salvorref11_Order [.slice s1'.a s1'.len s1'.cap, .slice s2'.a s2'.len s2'.cap, .int .i64 step']] h' → X (IntKind.wrap .i64 ((i : Int) + 1), bb, ()) h' := by
        intro h' st
        rw [inc_i (by omega)]
        exact hX _ _ _ ⟨i + 1, bb, s1', s2', act', step', L', rfl, by omega, rfl, st⟩ (by omega)
      refine jn_in fun J3 hJ3 => ?_
      refine brF rfl ?_
      simp only [nz_ok (show (4 : Int) ≠ 0 by decide)]
      refine jn_in fun J4 hJ4 => ?_
      by_cases h4 : Int.tmod (i : Int) 4 = 3
      · refine brT (by simpa using h4) ?_
        refine st.ldr (τ := τr) 1 rfl (s1', s2', step', ()) rfl ?_
        refine same_c st 0 rfl (by simp) (by simp) hn fun h15 st => ?_
        exact hJ4 _ _ (hJ3 _ _ (brF rfl (next _ st)))
      · refine brF (by simpa using h4) ?_
        exact hJ4 _ _ (hJ3 _ _ (brF rfl (next _ st)))
    · refine brF (by simp; omega) ?_
      refine st.ldr (τ := τr) 1 rfl (s1, s2, step, ()) rfl ?_
      refine same_c st 0 rfl (by simp) (by simp) hn fun h15 st => ?_
      have st := (st.less (G' := G) fun A hA => List.mem_append_left _ hA)
      exact hK _ (by simpa using (back0 _ _ st).dropR)

theorem orderPlays_F {l : List τa.T} {s : Sl} (hl : At h (acts l s)) (hok : ∀ x ∈ l, ActOk x) (a : Int) : ∀ K : Bool → HP, (∀ x h', (x = true ∧ Ext [] h h') → K x h') → F_salvorlaw11_OrderPlays a s K h := by
  intro K hK
  unfold F_salvorlaw11_OrderPlays
  have st := Hs.start h [acts l s] (by simpa using hl)
  have hs := rsn_len hl
  have fin : ∀ h', Hs [([], h)] [acts l s] [] h' → ∀ J : Bool → HP, (∀ x h', K x h' → J x h') → callT Try.prog fn_salvorlaw11_awake #[] .bool (fun r8 => J r8) h' := by
    intro h' st J hJ
    refine call_of (awake_c _) ?_
    rintro _ h2 ⟨rfl, x2⟩
    exact hJ _ _ (hK _ _ ⟨rfl, (st.ext x2).frame (by simp)⟩)
  have e1 : ∀ (J : Bool → HP), J (decide (a > 40 ∧ a ≤ 1048576)) h → brB (decide (a > (40 : Int))) (J (decide (a ≤ (1048576 : Int)))) (J false) h := by
    intro J hJ
    by_cases h1 : a > 40
    · refine brT (by simpa using h1) ?_
      simpa [h1] using hJ
    · refine brF (by simpa using h1) ?_
      rwa [decide_eq_false (fun h => h1 h.1)] at hJ
  refine jn_in fun J0 hJ0 => e1 _ (hJ0 _ _ ?_)
  refine jn_in fun J2 hJ2 => ?_
  have key : ∀ t, (t = false → (a ≤ 5000 ∨ 1048576 < a) ∧ l.length ≤ 1000000) → J2 t h := by
    intro t ht
    refine hJ2 _ _ ?_
    refine jn_in fun J4 hJ4 => ?_
    cases t with
    | true =>
      refine brT rfl (hJ4 _ _ ?_)
      refine jn_in fun J6 hJ6 => brT rfl (fin _ st J6 hJ6)
    | false =>
      obtain ⟨h1, h2⟩ := ht rfl
      refine brF rfl ?_
      refine plays_c st (by simp) h2 hok a h1 fun h1 st => ?_
      refine hJ4 _ _ ?_
      refine jn_in fun J6 hJ6 => brT rfl (fin _ st J6 hJ6)
  by_cases h1 : a > 40 ∧ a ≤ 1048576
  · exact brT (decide_eq_true h1) (key _ (fun h => by cases h))
  · refine brF (decide_eq_false h1) (key _ fun h => ?_)
    have := of_decide_eq_false h
    constructor
    · omega
    · omega

end Go.Proofs.OrdG
