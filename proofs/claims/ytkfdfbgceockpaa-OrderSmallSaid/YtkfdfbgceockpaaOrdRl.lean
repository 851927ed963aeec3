/-
  OrderSmall.
-/
import Derived.Test.YtkfdfbgceockpaaOrdRk
set_option linter.unusedVariables false
set_option linter.unusedSimpArgs false
namespace Go.Proofs.OrdG
open Go Go.Sx Go.Proofs Go.Proofs.Ord

variable {fr : Fr} {G As : List Asn} {h : Heap}

theorem playsOwn_c (st : Hs fr G As h) (k : Nat) {b : Nat} {l : List τa.T} (hk : As[k]? = some (cl b ty_salvorlaw11_Act (l.map τa.vals).flatten)) (hlen : l.length ≤ 1000000) (hok : ∀ x ∈ l, ActOk x) (a : Int) (ha : a ≤ 5000 ∨ 1048576 < a)
    {K : Bool → HP} (hK : ∀ h', Hs fr G (As.eraseIdx k) h' → K true h') : callT Try.prog fn_salvorlaw11_plays #[.int .i64 a, .slice (some ⟨b, 0, none⟩) l.length l.length] .bool K h := by
  have hw : Wide 3 τa.vals := fun x => rfl
  have st := st.asSn k 3 τa.vals l hk rfl
  have hkl : k < As.length := (List.getElem?_eq_some_iff.1 hk).1
  have st := st.freeze k (A := osn ty_salvorlaw11_Act 3 τa.vals l ⟨some ⟨b, 0, none⟩, l.length, l.length⟩) (by simp [hkl])
  have st := st.gain (B := acts l ⟨some ⟨b, 0, none⟩, l.length, l.length⟩) G.length (A := osn ty_salvorlaw11_Act 3 τa.vals l ⟨some ⟨b, 0, none⟩, l.length, l.length⟩) (by simp) fun S h p => ⟨S, osn_rsn hw p, fun b hb => hb⟩
  rw [List.eraseIdx_set_eq] at st
  refine plays_c (s := ⟨some ⟨b, 0, none⟩, l.length, l.length⟩) st (by simp) hlen hok a ha fun h' st => ?_
  exact hK _ (st.less fun A hA => List.mem_append_left _ (List.mem_append_left _ hA))

theorem tmodN (i n : Nat) : Int.tmod (i : Int) (n : Int) = ((i % n : Nat) : Int) := by
  rw [Int.tmod_eq_emod_of_nonneg (by omega)]; omega
theorem wdivN {i n : Nat} (hi : i < 4611686018427387904) : IntKind.wrap .i64 (Int.tdiv (i : Int) (n : Int)) = ((i / n : Nat) : Int) := by
  rw [Int.tdiv_eq_ediv_of_nonneg (by omega), ← Int.natCast_ediv]
  obtain ⟨q, hq⟩ : ∃ q, q = i / n := ⟨_, rfl⟩
  have h2 : i / n ≤ i := Nat.div_le_self _ _
  rw [← hq] at h2 ⊢
  exact wrap_i64 (by omega) (by omega)

def eight : List τa.T := [(0, 1, 0, ()), (0, 2, 0, ()), (0, 3, 0, ()), (3, 0, 20, ()), (4, 0, 0, ()), (5, 2, 0, ()), (6, 2, 0, ()), (5, 3, 0, ())]
theorem eight_ok : ∀ x ∈ eight, ActOk x := by
  intro x hx
  simp only [eight, List.mem_cons, List.not_mem_nil, or_false] at hx
  unfold ActOk
  rcases hx with rfl | rfl | rfl | rfl | rfl | rfl | rfl | rfl <;> decide

theorem ak {k V t : Int} (h : 0 ≤ k ∧ k < 256 ∧ 0 ≤ t ∧ t < 65536) : ActOk (k, V, t, ()) := h

theorem orF {b c : Bool} {k J' : Bool → HP} {X : (Bool → HP) → HP} (e : b = false) (hX : ∀ J : Bool → HP, (∀ x h', k x h' → J x h') → X J h) : jn (σ := Bool) k (fun J => brB b (J true) (X J)) h := by
  subst e
  exact jn_in fun J hJ => hX J hJ

set_option maxRecDepth 100000 in
theorem orderSmall_F : ∀ K : Bool → HP, (∀ x h', (x = true ∧ Ext [] h h') → K x h') → F_salvorlaw11_OrderSmall K h := by
  intro K hK
  unfold F_salvorlaw11_OrderSmall
  simp only [addr_add, Nat.zero_add]
  have st := Hs.start h [] (by simp)
  refine st.nw fun b0 h1 st => ?_
  refine st.nw fun b1 h2 st => ?_
  have st := st.asSn 1 3 τa.vals eight rfl rfl
  obtain ⟨N, hN⟩ : ∃ N : Nat, N = 4096 := ⟨_, rfl⟩
  refine lfp_invh (I := fun m σ h' => ∃ i : Nat, σ = ((i : Int), ()) ∧ i ≤ N ∧ m = N - i ∧ Hs [([], h)] [] [cl b0 ty_bool [.bool false], osn ty_salvorlaw11_Act 3 τa.vals eight ⟨some ⟨b1, 0, none⟩, 8, 8⟩] h')
    ⟨_, 0, rfl, by omega, rfl, st⟩ ?_
  rintro m σ h' X ⟨i, rfl, hi, rfl, st⟩ hX
  simp only
  by_cases hlt : i < N
  · refine brT (by simp; omega) ?_
    have hw : Wide 3 τa.vals := fun x => rfl
    have hE := (st.own 1 rfl).rsn hw
    have e8 : ∀ j : Nat, Int.tmod (j : Int) 8 = ((j % 8 : Nat) : Int) := fun j => tmodN j 8
    have d8 : IntKind.wrap .i64 (Int.tdiv (i : Int) 8) = ((i / 8 : Nat) : Int) := wdivN (n := 8) (by omega)
    have d64 : IntKind.wrap .i64 (Int.tdiv (i : Int) 64) = ((i / 64 : Nat) : Int) := wdivN (n := 64) (by omega)
    have d512 : IntKind.wrap .i64 (Int.tdiv (i : Int) 512) = ((i / 512 : Nat) : Int) := wdivN (n := 512) (by omega)
    have e3 : IntKind.wrap .i64 (1 + Int.tmod (i : Int) 3) = ((1 + i % 3 : Nat) : Int) := by
      rw [show (3 : Int) = ((3 : Nat) : Int) from rfl, tmodN, wrap_i64 (by omega) (by omega)]; omega
    simp only [nz_ok (show (8 : Int) ≠ 0 by decide), nz_ok (show (64 : Int) ≠ 0 by decide), nz_ok (show (3 : Int) ≠ 0 by decide), nz_ok (show (512 : Int) ≠ 0 by decide), d8, d64, d512, e8, e3]
    have rd : ∀ (j : Nat) (hj : j < 8) (K : τa.T → HP), (∀ x, ActOk x → K x h') → sx (some (⟨b1, 0, none⟩ : Addr)) 8 (j : Int) 3 (fun p => ldA τa p K) h' := by
      intro j hj K hK
      refine rdN (τ := τa) (s := ⟨some ⟨b1, 0, none⟩, 8, 8⟩) hE (show j < eight.length from hj) (hK _ (eight_ok _ (List.getElem_mem _)))
    refine rd (i % 8) (by omega) _ fun x5 ok5 => ?_
    simp only [nz_ok (show (8 : Int) ≠ 0 by decide), nz_ok (show (64 : Int) ≠ 0 by decide), nz_ok (show (3 : Int) ≠ 0 by decide), nz_ok (show (512 : Int) ≠ 0 by decide)]
    refine rd (i / 8 % 8) (by omega) _ fun x7 ok7 => ?_
    simp only [nz_ok (show (8 : Int) ≠ 0 by decide), nz_ok (show (64 : Int) ≠ 0 by decide), nz_ok (show (3 : Int) ≠ 0 by decide), nz_ok (show (512 : Int) ≠ 0 by decide)]
    refine rd (i / 64 % 8) (by omega) _ fun x9 ok9 => ?_
    simp only [nz_ok (show (8 : Int) ≠ 0 by decide), nz_ok (show (64 : Int) ≠ 0 by decide), nz_ok (show (3 : Int) ≠ 0 by decide), nz_ok (show (512 : Int) ≠ 0 by decide)]
    refine rd (i / 512) (by omega) _ fun x11 ok11 => ?_
    refine st.nw fun b12 h3 st => ?_
    refine playsOwn_c (b := b12) (l := [x5, x7, x9, (0, ((1 + i % 3 : Nat) : Int), 0, ()), x11]) st 2 rfl (by simp) ?_ 3 (.inl (by omega)) fun h4 st => ?_
    · intro x hx
      simp only [List.mem_cons, List.not_mem_nil, or_false] at hx
      rcases hx with rfl | rfl | rfl | rfl | rfl
      · exact ok5
      · exact ok7
      · exact ok9
      · exact ak (by decide)
      · exact ok11
    refine brF rfl ?_
    rw [inc_i (by omega)]
    exact hX _ _ _ ⟨i + 1, rfl, by omega, rfl, st⟩ (by omega)
  refine brF (by simp; omega) ?_
  clear hX
  have st := st.drop 1 rfl
  refine st.nw fun b15 h3 st => ?_
  refine st.st1 1 0 rfl (by simp) fun h4 st => ?_
  refine st.st1 1 1 rfl (by simp) fun h5 st => ?_
  refine st.st1 1 2 rfl (by simp) fun h6 st => ?_
  refine lfp_invh (I := fun m σ h' => ∃ i : Nat, σ = ((i : Int), ()) ∧ i ≤ 6 ∧ m = 6 - i ∧ Hs [([], h)] [] [cl b0 ty_bool [.bool false], cl b15 ty_salvorlaw11_Act [.int .u8 3, .int .i64 0, .int .u16 447]] h')
    ⟨_, 0, rfl, by omega, rfl, st⟩ ?_
  rintro m σ h' X ⟨i, rfl, hi, rfl, st⟩ hX
  simp only
  by_cases hlt : i < 6
  · refine brT (by simp; omega) ?_
    have e3 : IntKind.wrap .i64 (2 + Int.tmod (i : Int) 3) = ((2 + i % 3 : Nat) : Int) := by
      rw [show (3 : Int) = ((3 : Nat) : Int) from rfl, tmodN, wrap_i64 (by omega) (by omega)]; omega
    have e4 : IntKind.wrap .i64 (1 + Int.tmod (i : Int) 4) = ((1 + i % 4 : Nat) : Int) := by
      rw [show (4 : Int) = ((4 : Nat) : Int) from rfl, tmodN, wrap_i64 (by omega) (by omega)]; omega
    have e2 : IntKind.wrap .i64 (4 + Int.tmod (i : Int) 2) = ((4 + i % 2 : Nat) : Int) := by
      rw [show (2 : Int) = ((2 : Nat) : Int) from rfl, tmodN, wrap_i64 (by omega) (by omega)]; omega
    refine st.ldr (τ := τa) 1 rfl (3, 0, 447, ()) rfl ?_
    simp only [nz_ok (show (3 : Int) ≠ 0 by decide)]
    refine st.ldr (τ := τa) 1 rfl (3, 0, 447, ()) rfl ?_
    refine st.ldr (τ := τa) 1 rfl (3, 0, 447, ()) rfl ?_
    simp only [nz_ok (show (4 : Int) ≠ 0 by decide)]
    refine st.ldr (τ := τa) 1 rfl (3, 0, 447, ()) rfl ?_
    simp only [e3, e4]
    refine st.nw fun b22 h7 st => ?_
    simp only [nz_ok (show (2 : Int) ≠ 0 by decide), e2]
    refine playsOwn_c (b := b22) (l := [(0, 1, 0, ()), (0, 3, 0, ()), (0, 3, 0, ()), (3, 0, 447, ()), (0, ((2 + i % 3 : Nat) : Int), 0, ()), (0, 4, 0, ()), (0, ((2 + i % 3 : Nat) : Int), 0, ()), (3, 0, 447, ()), (3, 0, 447, ()), (0, 4, 0, ()), (0, 2, 0, ()), (0, 4, 0, ()), (0, ((1 + i % 4 : Nat) : Int), 0, ()), (4, 0, 0, ()), (3, 0, 447, ()), (0, 3, 0, ()), (0, 3, 0, ()), (0, 3, 0, ())])
      st 2 rfl (by simp) ?_ _ (.inl (by omega)) fun h8 st => ?_
    · intro x hx
      simp only [List.mem_cons, List.not_mem_nil, or_false] at hx
      rcases hx with rfl | rfl | rfl | rfl | rfl | rfl | rfl | rfl | rfl | rfl | rfl | rfl | rfl | rfl | rfl | rfl | rfl | rfl <;> exact ak (by decide)
    refine brF rfl ?_
    rw [inc_i (by omega)]
    exact hX _ _ _ ⟨i + 1, rfl, by omega, rfl, st⟩ (by omega)
  refine brF (by simp; omega) ?_
  clear hX
  have st := st.drop 1 rfl
  refine st.nw fun b25 h3 st => ?_
  have st := st.asSl 1 (Value.int .i64) [-9223372036854775808, -1, 0, 1048577, 9223372036854775807] rfl rfl
  refine lfp_invh (I := fun m σ h' => ∃ i : Nat, σ = ((i : Int), ()) ∧ i ≤ 5 ∧ m = 5 - i ∧ Hs [([], h)] [] [cl b0 ty_bool [.bool false], oi [-9223372036854775808, -1, 0, 1048577, 9223372036854775807] ⟨some ⟨b25, 0, none⟩, 5, 5⟩] h')
    ⟨_, 0, rfl, by omega, rfl, st⟩ ?_
  rintro m σ h' X ⟨i, rfl, hi, rfl, st⟩ hX
  simp only
  by_cases hlt : i < 5
  · refine brT (by simp; omega) ?_
    refine rdE (τ := .int .i64) (s := ⟨some ⟨b25, 0, none⟩, 5, 5⟩) (st.own 1 rfl).rsl (i := i) (by simp; omega) ?_
    have hv : ([-9223372036854775808, -1, 0, 1048577, 9223372036854775807] : List Int)[i]'(by simp; omega) ∈ ([-9223372036854775808, -1, 0, 1048577, 9223372036854775807] : List Int) := List.getElem_mem _
    obtain ⟨v, ev⟩ : ∃ v : Int, v = ([-9223372036854775808, -1, 0, 1048577, 9223372036854775807] : List Int)[i]'(by simp; omega) := ⟨_, rfl⟩
    rw [← ev] at hv ⊢
    have hb : v ≤ 5000 ∨ 1048576 < v := by
      simp only [List.mem_cons, List.not_mem_nil, or_false] at hv
      rcases hv with rfl | rfl | rfl | rfl | rfl <;> omega
    refine st.nw fun b30 h4 st => ?_
    refine playsOwn_c (b := b30) (l := [(0, 1, 0, ()), (4, 0, 0, ()), (5, v, 0, ())]) st 2 rfl (by simp) ?_ v hb fun h5 st => ?_
    · intro x hx
      simp only [List.mem_cons, List.not_mem_nil, or_false] at hx
      rcases hx with rfl | rfl | rfl <;> exact ak (by decide)
    refine jn_in fun J hJ => brF rfl ?_
    refine st.nw fun b35 h6 st => ?_
    refine playsOwn_c (b := b35) (l := [(0, v, 0, ()), (5, v, 0, ()), (6, v, 0, ())]) st 2 rfl (by simp) ?_ 2 (.inl (by omega)) fun h7 st => ?_
    · intro x hx
      simp only [List.mem_cons, List.not_mem_nil, or_false] at hx
      rcases hx with rfl | rfl | rfl <;> exact ak (by decide)
    refine hJ _ _ (brF rfl ?_)
    rw [inc_i (by omega)]
    exact hX _ _ _ ⟨i + 1, rfl, by omega, rfl, st⟩ (by omega)
  refine brF (by simp; omega) ?_
  clear hX
  have st := st.drop 1 rfl
  obtain ⟨n, hn⟩ : ∃ n : Nat, n = 1048576 := ⟨_, rfl⟩
  have hn' : (1048576 : Int) = (n : Int) := by omega
  rw [hn']
  refine call_of (new_c n (by omega) h') ?_
  rintro _ h4 ⟨o, S, rfl, rep, x4, hS⟩
  obtain ⟨S', r', hs', hcl⟩ := rep.norm
  have st := st.new (A := repA o n (zeros (n + 1)) 1024 (iota n)) x4 ⟨S', ⟨r', Lim.new _, hcl⟩, fun b hb => hS b (hs' b hb)⟩
  refine jn_in fun J1 hJ1 => brF rfl (hJ1 _ _ ?_)
  refine jn_in fun J2 hJ2 => brF rfl ?_
  refine bumpB st 1 rfl (n : Int) (.inr fun v => by rw [g_zeros]; decide) fun h5 st => ?_
  obtain ⟨eb, es⟩ := bump_last (n := n) (by omega)
  rw [eb, es] at st
  rw [if_pos (by omega)]
  refine hJ2 _ _ ?_
  refine jn_in fun J3 hJ3 => brF rfl ?_
  obtain ⟨S2, rep2, _⟩ := Hs.rep st 1 rfl
  refine call_of (lenR_c rep2) ?_
  rintro _ h6 ⟨rfl, e6⟩
  subst e6
  have el : (((((n : Int) :: iota (n - 1)).length : Nat) : Int) != (n : Int)) = false := by
    rw [List.length_cons, length_iota, bne_eq_false_iff_eq]; omega
  rw [el]
  refine hJ3 _ _ (brF rfl ?_)
  refine Hs.pop st 1 rfl fun h7 st => ?_
  refine Hs.pop st 1 rfl fun h8 st => ?_
  obtain ⟨m, rfl⟩ : ∃ m : Nat, n = m + 2 := ⟨n - 2, by omega⟩
  have e1 : ((((m + 2 : Nat) : Int) :: iota (m + 2 - 1)).tail).headD 0 = 1 := by
    rw [List.tail_cons, show m + 2 - 1 = m + 1 by omega]
    simp [iota, List.range_succ_eq_map]
  have e2 : decide (0 < ((((m + 2 : Nat) : Int) :: iota (m + 2 - 1)).tail).length) = true := by
    rw [List.tail_cons, length_iota]; exact decide_eq_true (by omega)
  rw [e1, e2]
  refine jn_in fun J4 hJ4 => brF (by simp) (hJ4 _ _ ?_)
  refine jn_in fun J5 hJ5 => brF (by decide) (hJ5 _ _ ?_)
  refine jn_in fun J6 hJ6 => brF (by simp) (hJ6 _ _ (brF rfl ?_))
  have st := st.drop 1 rfl
  refine st.nw fun b54 h9 st => ?_
  refine st.nw fun b55 h10 st => ?_
  have st := st.asSl 2 Value.pointer [none, some ⟨b54, 0, none⟩] rfl rfl
  refine lfp_invh (I := fun m σ h' => ∃ i : Nat, σ = ((i : Int), ()) ∧ i ≤ 2 ∧ m = 2 - i ∧ Hs [([], h)] [] [cl b0 ty_bool [.bool false], cl b54 ty_order_Order [.slice none 0 0, .slice none 0 0, .slice none 0 0, .int .i64 0, .bool false], osl ty_ptr_order_Order Value.pointer [none, some ⟨b54, 0, none⟩] ⟨some ⟨b55, 0, none⟩, 2, 2⟩] h')
    ⟨_, 0, rfl, by omega, rfl, st⟩ ?_
  rintro m σ h' X ⟨i, rfl, hi, rfl, st⟩ hX
  simp only
  by_cases hlt : i < 2
  · refine brT (by simp; omega) ?_
    refine rdE (τ := .ptr) (s := ⟨some ⟨b55, 0, none⟩, 2, 2⟩) (st.own 2 rfl).rsl (i := i) (by simp; omega) ?_
    have hq : NoO h' (([none, some ⟨b54, 0, none⟩] : List (Option Addr))[i]'(by simp; omega)) := by
      have : i = 0 ∨ i = 1 := by omega
      rcases this with rfl | rfl
      · exact .inl rfl
      · exact .inr ⟨b54, _, _, rfl, st.blk 1 rfl, rfl⟩
    obtain ⟨q, eq⟩ : ∃ q : Option Addr, q = ([none, some ⟨b54, 0, none⟩] : List (Option Addr))[i]'(by simp; omega) := ⟨_, rfl⟩
    rw [← eq] at hq
    rw [show ([none, some ⟨b54, 0, none⟩] : List (Option Addr))[i]'(by simp; omega) = q from eq.symm]
    refine call_of (noPop_c hq) ?_
    rintro _ h11 ⟨rfl, x⟩
    have st := st.ext x; have hq := hq.ext x
    refine call_of (noPeek_c hq) ?_
    rintro _ h12 ⟨rfl, x⟩
    have st := st.ext x; have hq := hq.ext x
    refine call_of (noActivity_c hq 1) ?_
    rintro _ h13 ⟨rfl, x⟩
    have st := st.ext x; have hq := hq.ext x
    refine call_of (noAll_c hq) ?_
    rintro _ h14 ⟨bc, rfl, kc, x⟩
    have st := st.ext x; have hq := hq.ext x
    refine st.range (τ := .cons .val .nil) (fun _ _ => False) (fun pre => pre = []) (fun S _ _ => ⟨[], by simp, fun h1 hn => noAll_iter (hq.ext hn.1) (kc.ext hn.1 (by simp))⟩) (fun _ _ _ _ => rfl)
      (fun pre Bs => Bs = [cl b0 ty_bool [.bool false], cl b54 ty_order_Order [.slice none 0 0, .slice none 0 0, .slice none 0 0, .int .i64 0, .bool false], osl ty_ptr_order_Order Value.pointer [none, some ⟨b54, 0, none⟩] ⟨some ⟨b55, 0, none⟩, 2, 2⟩]) (fun _ _ => False) rfl (fun _ _ _ _ _ hf => hf.elim) ?_ (fun _ _ hf => hf.elim) (fun i id K hi => by simp at hi)
    rintro pre Bs h15 - rfl st
    have hq : NoO h15 q := by
      rcases hq with h | ⟨b, t, c, rfl, _, _⟩
      · exact .inl h
      · have : i = 0 ∨ i = 1 := by omega
        rcases this with rfl | rfl
        · simp at eq
        · have e54 : some (⟨b, 0, none⟩ : Addr) = some ⟨b54, 0, none⟩ := eq
          rw [e54]; exact .inr ⟨b54, _, _, rfl, st.blk 1 rfl, rfl⟩
    refine jn_in fun J1 hJ1 => brF rfl (hJ1 _ _ ?_)
    refine jn_in fun J2 hJ2 => brF rfl (hJ2 _ _ ?_)
    refine jn_in fun J3 hJ3 => brF rfl (hJ3 _ _ ?_)
    refine jn_in fun J4 hJ4 => brF rfl ?_
    refine call_of (noBump_c hq 0) ?_
    rintro _ h16 ⟨rfl, x⟩
    have st := st.ext x; have hq := hq.ext x
    refine hJ4 _ _ ?_
    refine jn_in fun J5 hJ5 => brF rfl ?_
    refine call_of (noPush_c hq 0) ?_
    rintro _ h17 ⟨rfl, x⟩
    have st := st.ext x; have hq := hq.ext x
    refine hJ5 _ _ ?_
    refine jn_in fun J6 hJ6 => brF rfl ?_
    refine call_of (noRemove_c hq 0) ?_
    rintro _ h18 ⟨rfl, x⟩
    have st := st.ext x; have hq := hq.ext x
    refine hJ6 _ _ ?_
    refine jn_in fun J7 hJ7 => brF rfl ?_
    refine call_of (noDecay_c hq) ?_
    rintro _ h19 ⟨rfl, x⟩
    have st := st.ext x; have hq := hq.ext x
    refine hJ7 _ _ ?_
    refine jn_in fun J8 hJ8 => brF rfl ?_
    refine call_of (noHas_c hq 1) ?_
    rintro _ h20 ⟨rfl, x⟩
    have st := st.ext x; have hq := hq.ext x
    refine hJ8 _ _ ?_
    refine jn_in fun J9 hJ9 => brF rfl ?_
    refine call_of (noLen_c hq) ?_
    rintro _ h21 ⟨rfl, x⟩
    have st := st.ext x; have hq := hq.ext x
    refine call_of (noVars_c hq) ?_
    rintro _ h22 ⟨rfl, x⟩
    have st := st.ext x; have hq := hq.ext x
    refine call_of (noStep_c hq) ?_
    rintro _ h23 ⟨rfl, x⟩
    have st := st.ext x
    refine hJ9 _ _ (brF rfl ?_)
    rw [inc_i (by omega)]
    exact hX _ _ _ ⟨i + 1, rfl, by omega, rfl, st⟩ (by omega)
  refine brF (by simp; omega) ?_
  refine call_of (awake_c _) ?_
  rintro _ h16 ⟨rfl, x⟩
  have st := st.ext x
  refine st.st1 0 0 rfl (by simp) fun h17 st => ?_
  intro h18 hm
  have st := st.marked hm
  rw [st.ldb 0 0 rfl rfl]
  exact hK _ _ ⟨rfl, st.frame (by simp)⟩

end Go.Proofs.OrdG
