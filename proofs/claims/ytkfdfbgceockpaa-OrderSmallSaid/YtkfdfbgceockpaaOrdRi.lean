/-
  The law's does: one call of the order, and of the reference.
-/
import Derived.Test.YtkfdfbgceockpaaOrdRg
set_option linter.unusedVariables false
set_option linter.unusedSimpArgs false
namespace Go.Proofs.OrdG
open Go Go.Sx Go.Proofs Go.Proofs.Ord

variable {fr : Fr} {G As : List Asn} {h : Heap} {act L : List Int} {s1 s2 : Sl} {n o : Nat} {step : Int}

theorem bumpB (st : Hs fr G As h) (k : Nat) (hk : As[k]? = some (repA o n act step L)) (v : Int) (hn : n ≤ 1000000 ∨ ∀ v : Nat, g act v + step ≤ maxA) {K : Int → HP}
    (hK : ∀ h', Hs fr G (As.set k (repA o n (bumpA act n v step) (bumpS act n v step) (srt (bumpA act n v step) L))) h' → K (if 1 ≤ v ∧ v ≤ n then 0 else 110) h') :
    callT Try.prog fn_order_Order_Bump #[.pointer (pt o), .int .i64 v] (.int .i64) K h := by
  obtain ⟨S, ⟨r, l, c⟩, hw⟩ := st.focus k hk
  refine call_of (bump_c r l v fun _ _ hg => ?_) ?_
  · rcases hn with hn | hn
    · exact fun h b xs rest lt cmp a b' c => sortsToBig h b xs rest lt cmp a b' (by omega)
    · have := hn v.toNat; omega
  · rintro x h' ⟨rfl, r', x'⟩
    exact hK _ (Hs.keepsR hw r' x' (l.bump r.len.1 v))

theorem wrap_u16 {x : Int} (h0 : 0 ≤ x) (h1 : x < 65536) : IntKind.wrap .u16 x = x := by
  have e : IntKind.wrap .u16 x = x % 65536 := by simp [IntKind.wrap, IntKind.bits, IntKind.signed]
  rw [e]; omega

theorem rep_facts (st : Hs fr G As h) (k : Nat) (hk : As[k]? = some (repA o n act step L)) : act.length = n + 1 ∧ n ≤ 1048576 ∧ Sorted act L ∧ (∀ x ∈ L, 1 ≤ x ∧ x ≤ n) ∧ Lim act step := by
  obtain ⟨S, r, l⟩ := Hs.rep st k hk
  exact ⟨r.len.1, by obtain ⟨ab, hb, pb, H, Pl, _, _, _, _, _, hn, _⟩ := r; exact hn, r.sorted, r.mem, l⟩

theorem mem_pushL {v x : Int} (h : 1 ≤ v ∧ v ≤ n) : x ∈ pushL act n v L ↔ x = v ∨ x ∈ L := by
  unfold pushL
  split
  · rw [mem_srt, List.mem_cons]
  · rename_i hc
    have hv : v ∈ L := by
      by_cases hv : v ∈ L
      · exact hv
      · exact absurd ⟨h.1, h.2, hv⟩ hc
    constructor
    · exact .inr
    · rintro (rfl | h)
      · exact hv
      · exact h

abbrev τa : Ty := .cons (.int .u8) (.cons (.int .i64) (.cons (.int .u16) .nil))

theorem does_F (st : Hs fr G [repA o n act step L] h) (hA : ri act.tail s1 ∈ G) (hI : ri (flags n L) s2 ∈ G) (hn : n ≤ 1000000) (kind V times : Int) (hk0 : 0 ≤ kind) (hk1 : kind < 256) (ht0 : 0 ≤ times) (ht1 : times < 65536)
    (K : (τo.T × Bool × Unit) → HP)
    (hK : ∀ act' step' L' s1' s2' Bs h', Hs fr G (repA o n act' step' L' :: Bs) h' → (ri act'.tail s1' ∈ G ∨ oi act'.tail s1' ∈ Bs) → (ri (flags n L') s2' ∈ G ∨ oi (flags n L') s2' ∈ Bs) → K ((s1', s2', step', ()), true, ()) h') :
    F_salvorlaw11_does (some ⟨o, 0, none⟩) (s1, s2, step, ()) (kind, V, times, ()) K h := by
  unfold F_salvorlaw11_does
  simp only [addr_add, Nat.zero_add]
  obtain ⟨hl, hn0, hs, hb, lim⟩ := rep_facts st 0 rfl
  have l2 := rsl_len (st.fzm hI)
  rw [flags_len] at l2
  refine st.nw fun b0 h1 st => ?_
  refine st.nw fun b1 h2 st => ?_
  refine st.nw fun b2 h3 st => ?_
  simp only [List.nil_append, List.cons_append, List.append_assoc] at st
  -- the end
  have fin : ∀ {act' : List Int} {step' : Int} {L' : List Int} {s1' s2' : Sl} {Bs : List Asn} {h' : Heap} {t : Bool},
      Hs fr G (repA o n act' step' L' :: cl b0 ty_salvorref11_Order [.slice s1'.a s1'.len s1'.cap, .slice s2'.a s2'.len s2'.cap, .int .i64 step'] :: cl b1 ty_salvorlaw11_Act [.int .u8 kind, .int .i64 V, .int .u16 times] :: cl b2 ty_salvorref11_Order [.slice none 0 0, .slice none 0 0, .int .i64 0] :: Bs) h' →
      (ri act'.tail s1' ∈ G ∨ oi act'.tail s1' ∈ Bs) → (ri (flags n L') s2' ∈ G ∨ oi (flags n L') s2' ∈ Bs) → t = true →
      (st1 (⟨b2, 0, none⟩ : Addr) (.slice s1'.a s1'.len s1'.cap) <|
       st1 (⟨b2, 1, none⟩ : Addr) (.slice s2'.a s2'.len s2'.cap) <|
       st1 (⟨b2, 2, none⟩ : Addr) (.int .i64 step') <|
       ldA (.cons .sl (.cons .sl (.cons (.int .i64) .nil))) (⟨b2, 0, none⟩ : Addr) fun x16 =>
       K ((⟨x16.1.a, x16.1.len, x16.1.cap⟩, ⟨x16.2.1.a, x16.2.1.len, x16.2.1.cap⟩, x16.2.2.1, ()), t, ())) h' := by
    rintro act' step' L' s1' s2' Bs h' t st h1 h2 rfl
    refine st.st1 3 0 rfl (by simp) fun h7 st => ?_
    refine st.st1 3 1 rfl (by simp) fun h8 st => ?_
    refine st.st1 3 2 rfl (by simp) fun h9 st => ?_
    refine st.ldr (τ := τr) 3 rfl (s1', s2', step', ()) rfl ?_
    exact hK _ _ _ _ _ _ _ st (h1.imp id fun h => by simp [h]) (h2.imp id fun h => by simp [h])
  rw [st.ldi 2 1 rfl rfl]
  refine jn_mid (M := fun t h' => t = decide (1 ≤ V ∧ V ≤ n) ∧ h' = h3) ?_ ?_
  rotate_left
  · intro J hJ
    by_cases h1 : V ≥ 1
    · refine brT (by simpa using h1) ?_
      rw [st.ldi 2 1 rfl rfl, st.lds 1 1 rfl rfl]
      refine hJ _ _ ⟨?_, rfl⟩
      simp only [l2]
      simp; omega
    · refine brF (by simpa using h1) (hJ _ _ ⟨?_, rfl⟩)
      simp; omega
  rintro _ h4 ⟨rfl, e4⟩
  subst e4
  refine jn_mid (M := fun w h'' => w = ((if 1 ≤ V ∧ V ≤ n then 0 else 110), ()) ∧ h'' = h4) ?_ ?_
  rotate_left
  · intro J hJ
    by_cases h1 : 1 ≤ V ∧ V ≤ n
    · refine brF (by simpa using h1) (hJ _ _ ⟨?_, rfl⟩)
      rw [if_pos h1]
    · refine brT (by rw [decide_eq_false h1]; rfl) (hJ _ _ ⟨?_, rfl⟩)
      rw [if_neg h1]
  rintro _ h5 ⟨rfl, e5⟩
  subst e5
  simp only
  rw [st.ldi 2 0 rfl rfl]
  simp only [nz_ok (show (8 : Int) ≠ 0 by decide)]
  have ek : Int.tmod kind 8 = kind % 8 := Int.tmod_eq_emod_of_nonneg hk0
  rw [ek]
  refine jn_mid (M := fun w h'' => w = (decide (kind % 8 ≤ 2), ()) ∧ h'' = h5) ?_ ?_
  rotate_left
  · intro J hJ
    by_cases e0 : kind % 8 = 0
    · refine brT (by simpa using e0) (hJ _ _ ⟨?_, rfl⟩)
      rw [e0]; rfl
    · refine brF (by simpa using e0) ?_
      refine jn_in fun J2 hJ2 => ?_
      by_cases e1 : kind % 8 = 1
      · refine brT (by simpa using e1) (hJ2 _ _ (hJ _ _ ⟨?_, rfl⟩))
        rw [e1]; rfl
      · refine brF (by simpa using e1) (hJ2 _ _ (hJ _ _ ⟨?_, rfl⟩))
        by_cases e2 : kind % 8 = 2
        · rw [e2]; rfl
        · show (((kind % 8 : Int) == 2), ()) = (decide (kind % 8 ≤ 2), ())
          rw [decide_eq_false (by omega), show ((kind % 8 : Int) == 2) = false by simpa using e2]
  rintro _ h6 ⟨rfl, e6⟩
  subst e6
  simp only
  have dec : ∀ {a b : Int}, decide (a = b) = (a == b) := fun {a b} => by simp [BEq.beq]
  by_cases c0 : kind % 8 ≤ 2
  · -- Bump
    refine brT (by simpa using c0) ?_
    refine jn_mid (M := fun _ h' => ∃ s1' Bs, Hs fr G (repA o n act step L :: cl b0 ty_salvorref11_Order [.slice s1'.a s1'.len s1'.cap, .slice s2.a s2.len s2.cap, .int .i64 (bumpS act n V step)] :: cl b1 ty_salvorlaw11_Act [.int .u8 kind, .int .i64 V, .int .u16 times] :: cl b2 ty_salvorref11_Order [.slice none 0 0, .slice none 0 0, .int .i64 0] :: Bs) h' ∧
      (ri (bumpA act n V step).tail s1' ∈ G ∨ oi (bumpA act n V step).tail s1' ∈ Bs)) ?_ ?_
    · rintro _ h5 ⟨s1', Bs, st, hm⟩
      refine st.ldr (τ := τr) 1 rfl (s1', s2, bumpS act n V step, ()) rfl ?_
      rw [st.ldi 2 1 rfl rfl]
      refine bumpB st 0 rfl V (.inl hn) fun h6 st => ?_
      refine st.cka 1 rfl ?_
      refine fin st hm (.inl ?_) (by simp)
      rw [flags_congr (M := L) fun x => mem_srt]; exact hI
    · intro J hJ
      by_cases h1 : 1 ≤ V ∧ V ≤ n
      · refine brT (by simpa using h1) ?_
        refine st.ldr (τ := τr) 1 rfl (s1, s2, step, ()) rfl ?_
        rw [st.ldi 2 1 rfl rfl]
        obtain ⟨v, rfl⟩ : ∃ v : Nat, V = v := ⟨V.toNat, by omega⟩
        refine refBump_c st (st.fzm hA) s2 hl hn0 lim (v := v) (by omega) (by omega) fun s' h5 st => ?_
        refine st.st1 1 0 rfl (by simp) fun h7 st => ?_
        refine st.st1 1 1 rfl (by simp) fun h8 st => ?_
        refine st.st1 1 2 rfl (by simp) fun h9 st => ?_
        exact hJ _ _ ⟨s', [_], st, .inr (by simp)⟩
      · refine brF (by simpa using h1) ?_
        refine hJ _ _ ⟨s1, [], ?_, .inl ?_⟩
        · unfold bumpS; rw [if_neg h1]; exact st
        · unfold bumpA; rw [if_neg h1]; exact hA
  · refine brF (by simpa using c0) ?_
    by_cases c4 : kind % 8 = 4
    · -- Pop
      refine brT (by simpa using c4) ?_
      refine Hs.pop st 0 rfl fun h4 st => ?_
      refine st.ldr (τ := τr) 1 rfl (s1, s2, step, ()) rfl ?_
      refine firstL_c st (st.fzm hA) (st.fzm hI) hl (by omega) hs hb step fun h5 st => ?_
      simp only
      refine jn_mid (M := fun _ h' => ∃ s2' Bs, Hs fr G (repA o n act step L.tail :: cl b0 ty_salvorref11_Order [.slice s1.a s1.len s1.cap, .slice s2'.a s2'.len s2'.cap, .int .i64 step] :: cl b1 ty_salvorlaw11_Act [.int .u8 kind, .int .i64 V, .int .u16 times] :: cl b2 ty_salvorref11_Order [.slice none 0 0, .slice none 0 0, .int .i64 0] :: Bs) h' ∧
        (ri (flags n L.tail) s2' ∈ G ∨ oi (flags n L.tail) s2' ∈ Bs)) ?_ ?_
      · rintro _ h6 ⟨s2', Bs, st, hm⟩
        refine st.ldr (τ := τr) 1 rfl (s1, s2', step, ()) rfl ?_
        refine jn_in fun J hJ => ?_
        refine brT (by simp) ?_
        refine hJ _ _ (fin st (.inl hA) hm ?_)
        cases L with
        | nil => simp
        | cons x r => have := hb x (by simp); show (decide (0 < (x :: r).length) == decide ((x : Int) > 0)) = true; rw [decide_eq_true (show x > 0 by omega)]; simp
      · intro J hJ
        cases L with
        | nil => exact brF (by simp) (hJ _ _ ⟨s2, [], st, .inl hI⟩)
        | cons x r =>
          have hx := hb x (by simp)
          refine brT (show decide ((x : Int) > 0) = true from decide_eq_true (by omega)) ?_
          refine st.ldr (τ := τr) 1 rfl (s1, s2, step, ()) rfl ?_
          obtain ⟨v, rfl⟩ : ∃ v : Nat, x = v := ⟨x.toNat, by omega⟩
          simp only [List.headD_cons]
          refine set_c st (st.fzm hI) s1 step (v := v) (by omega) (by rw [flags_len]; omega) (by rw [flags_len]; omega) 0 fun s8 h5 st => ?_
          have ndr := hs.nodup
          have ef : (flags n ((v : Int) :: r)).set (v - 1) 0 = flags n r := flags_set (by omega) (by omega) (by rw [if_neg (List.nodup_cons.1 ndr).1]) (fun u hu => by simp [hu])
          rw [ef] at st
          refine st.st1 1 0 rfl (by simp) fun h7 st => ?_
          refine st.st1 1 1 rfl (by simp) fun h8 st => ?_
          refine st.st1 1 2 rfl (by simp) fun h9 st => ?_
          exact hJ _ _ ⟨s8, [_], st, .inr (by simp)⟩
    · refine brF (by simpa using c4) ?_
      by_cases c5 : kind % 8 = 5
      · -- Push
        refine brT (by simpa using c5) ?_
        refine jn_mid (M := fun _ h' => ∃ s2' Bs, Hs fr G (repA o n act step L :: cl b0 ty_salvorref11_Order [.slice s1.a s1.len s1.cap, .slice s2'.a s2'.len s2'.cap, .int .i64 step] :: cl b1 ty_salvorlaw11_Act [.int .u8 kind, .int .i64 V, .int .u16 times] :: cl b2 ty_salvorref11_Order [.slice none 0 0, .slice none 0 0, .int .i64 0] :: Bs) h' ∧
          (ri (flags n (pushL act n V L)) s2' ∈ G ∨ oi (flags n (pushL act n V L)) s2' ∈ Bs)) ?_ ?_
        · rintro _ h6 ⟨s2', Bs, st, hm⟩
          refine st.ldr (τ := τr) 1 rfl (s1, s2', step, ()) rfl ?_
          rw [st.ldi 2 1 rfl rfl]
          refine Hs.push st 0 rfl V fun h6 st => ?_
          refine st.cka 1 rfl ?_
          exact fin st (.inl hA) hm (by simp)
        · intro J hJ
          by_cases h1 : 1 ≤ V ∧ V ≤ n
          · refine brT (by simpa using h1) ?_
            refine st.ldr (τ := τr) 1 rfl (s1, s2, step, ()) rfl ?_
            rw [st.ldi 2 1 rfl rfl]
            obtain ⟨v, rfl⟩ : ∃ v : Nat, V = v := ⟨V.toNat, by omega⟩
            refine set_c st (st.fzm hI) s1 step (v := v) (by omega) (by rw [flags_len]; omega) (by rw [flags_len]; omega) 1 fun s8 h5 st => ?_
            have ef : (flags n L).set (v - 1) 1 = flags n (pushL act n v L) := flags_set (by omega) (by omega) (by rw [if_pos ((mem_pushL h1).2 (.inl rfl))]) (fun u hu => by rw [mem_pushL h1]; simp [hu])
            rw [ef] at st
            refine st.st1 1 0 rfl (by simp) fun h7 st => ?_
            refine st.st1 1 1 rfl (by simp) fun h8 st => ?_
            refine st.st1 1 2 rfl (by simp) fun h9 st => ?_
            exact hJ _ _ ⟨s8, [_], st, .inr (by simp)⟩
          · refine brF (by simpa using h1) (hJ _ _ ⟨s2, [], st, .inl ?_⟩)
            unfold pushL; rw [if_neg (fun h => h1 ⟨h.1, h.2.1⟩)]; exact hI
      · refine brF (by simpa using c5) ?_
        by_cases c6 : kind % 8 = 6
        · -- Remove
          refine brT (by simpa using c6) ?_
          refine jn_mid (M := fun _ h' => ∃ s2' Bs, Hs fr G (repA o n act step L :: cl b0 ty_salvorref11_Order [.slice s1.a s1.len s1.cap, .slice s2'.a s2'.len s2'.cap, .int .i64 step] :: cl b1 ty_salvorlaw11_Act [.int .u8 kind, .int .i64 V, .int .u16 times] :: cl b2 ty_salvorref11_Order [.slice none 0 0, .slice none 0 0, .int .i64 0] :: Bs) h' ∧
            (ri (flags n (L.erase V)) s2' ∈ G ∨ oi (flags n (L.erase V)) s2' ∈ Bs)) ?_ ?_
          · rintro _ h6 ⟨s2', Bs, st, hm⟩
            refine st.ldr (τ := τr) 1 rfl (s1, s2', step, ()) rfl ?_
            rw [st.ldi 2 1 rfl rfl]
            refine Hs.remove st 0 rfl V fun h6 st => ?_
            refine st.cka 1 rfl ?_
            exact fin st (.inl hA) hm (by simp)
          · intro J hJ
            have ndr := hs.nodup
            by_cases h1 : 1 ≤ V ∧ V ≤ n
            · refine brT (by simpa using h1) ?_
              refine st.ldr (τ := τr) 1 rfl (s1, s2, step, ()) rfl ?_
              rw [st.ldi 2 1 rfl rfl]
              obtain ⟨v, rfl⟩ : ∃ v : Nat, V = v := ⟨V.toNat, by omega⟩
              refine set_c st (st.fzm hI) s1 step (v := v) (by omega) (by rw [flags_len]; omega) (by rw [flags_len]; omega) 0 fun s8 h5 st => ?_
              have ef : (flags n L).set (v - 1) 0 = flags n (L.erase v) := flags_set (by omega) (by omega) (by rw [if_neg (fun h => absurd rfl (ndr.mem_erase_iff.1 h).1)]) (fun u hu => by rw [ndr.mem_erase_iff]; simp [hu])
              rw [ef] at st
              refine st.st1 1 0 rfl (by simp) fun h7 st => ?_
              refine st.st1 1 1 rfl (by simp) fun h8 st => ?_
              refine st.st1 1 2 rfl (by simp) fun h9 st => ?_
              exact hJ _ _ ⟨s8, [_], st, .inr (by simp)⟩
            · refine brF (by simpa using h1) (hJ _ _ ⟨s2, [], st, .inl ?_⟩)
              rw [List.erase_of_not_mem (fun h => h1 (hb _ h))]; exact hI
        · -- Decay
          refine brF (by simpa using c6) ?_
          rw [st.ldi 2 2 rfl rfl]
          simp only [nz_ok (show (600 : Int) ≠ 0 by decide)]
          have et : IntKind.wrap .u16 (1 + Int.tmod times 600) = 1 + times % 600 := by
            rw [Int.tmod_eq_emod_of_nonneg ht0]; exact wrap_u16 (by omega) (by omega)
          rw [et]
          refine lfp_invh (I := fun m σ h' => ∃ (i : Nat) (bb : Bool) (step' : Int), σ = ((i : Int), bb, ()) ∧ (i : Int) ≤ 1 + times % 600 ∧ m = (1 + times % 600).toNat - i ∧ Hs fr G [repA o n act step' L, cl b0 ty_salvorref11_Order [.slice s1.a s1.len s1.cap, .slice s2.a s2.len s2.cap, .int .i64 step'], cl b1 ty_salvorlaw11_Act [.int .u8 kind, .int .i64 V, .int .u16 times], cl b2 ty_salvorref11_Order [.slice none 0 0, .slice none 0 0, .int .i64 0]] h')
            ⟨_, 0, false, step, rfl, by omega, rfl, st⟩ ?_
          rintro m σ h' X ⟨i, bb, step', rfl, hi, rfl, st⟩ hX
          simp only
          by_cases hlt : (i : Int) < 1 + times % 600
          · refine brT (by simpa using hlt) ?_
            refine st.ldr (τ := τr) 1 rfl (s1, s2, step', ()) rfl ?_
            have lim' := (rep_facts st 0 rfl).2.2.2.2
            refine decay_c s1 s2 lim'.s1 lim'.s2 st fun h5 st => ?_
            refine st.st1 1 0 rfl (by simp) fun h7 st => ?_
            refine st.st1 1 1 rfl (by simp) fun h8 st => ?_
            refine st.st1 1 2 rfl (by simp) fun h9 st => ?_
            refine Hs.decay st 0 rfl fun h10 st => ?_
            refine brF (by simp) ?_
            rw [wrap_u16 (by omega) (by omega)]
            exact hX _ _ _ ⟨i + 1, bb, _, rfl, by omega, rfl, st⟩ (by omega)
          · refine brF (by simpa using hlt) ?_
            refine st.ldr (τ := τr) 1 rfl (s1, s2, step', ()) rfl ?_
            exact fin st (.inl hA) (.inl hI) rfl

end Go.Proofs.OrdG
