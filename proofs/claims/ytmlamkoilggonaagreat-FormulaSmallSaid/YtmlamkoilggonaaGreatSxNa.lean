/-
  What is new, also when it is frozen. Nothing here names a program.
-/
import Derived.Test.YtmlamkoilggonaaGreatFoT
import Derived.Test.YtmlamkoilggonaaGreatClF
set_option linter.unusedVariables false
namespace Go.Sx
open Go

def newA (n : Nat) (A : Asn) : Asn where
  P := fun S h => A.P S h ∧ ∀ b ∈ S, n ≤ b
  loc := fun p hz hk => ⟨A.loc p.1 hz hk, p.2⟩
  cel := fun p => A.cel p.1

section
variable {fr : Fr} {G As : List Asn} {h h' : Heap} {A : Asn} {n : Nat}

theorem newA_new (hA : At h (newA n A)) : New n h A := let ⟨S, p, q⟩ := hA; ⟨S, p, q⟩
theorem newA_at (hA : At h (newA n A)) : At h A := (newA_new hA).at
theorem New.newA (hA : New n h A) : New n h (Sx.newA n A) := let ⟨S, p, q⟩ := hA; ⟨S, ⟨p, q⟩, q⟩
theorem Hs.fresh {h0 : Heap} (st : Hs fr G As h) (hm : ([], h0) ∈ fr) (k : Nat) (hk : As[k]? = some A) : Hs fr G (As.set k (newA h0.size A)) h := by
  obtain ⟨S, hs, hz, hf⟩ := st
  obtain ⟨S1, S2, hmm, hd, hA, hr, hw⟩ := hs.focus k hk
  obtain ⟨S', hm', hs'⟩ := hw (newA h0.size A) S1 h hr ⟨hA, fun b hb => ((hf _ hm).2 b ((hmm b).2 (.inl hb))).elim (fun q => by cases q) id⟩ hd
  have hS : ∀ b ∈ S', b ∈ S ∨ h.size ≤ b := fun b hb => .inl ((hmm b).2 ((hm' b).1 hb))
  exact ⟨S', hs', hz.mono hS, hf.mono hS⟩
theorem New.rsl {α : Type} {t : TypeId} {enc : α → Value} {xs : List α} {s : Sl} (hA : New n h (osl t enc xs s)) : New n h (rsl enc xs s) := let ⟨S, p, q⟩ := hA; ⟨S, osl_rsl p, q⟩
end
end Go.Sx

set_option linter.unusedVariables false
set_option linter.unusedSimpArgs false
namespace Go.Proofs.S
open Go Go.Sx Go.Proofs Go.Cl

variable {h : Heap} {c d : List Int} {s s2 : Sl} {fr : Fr} {G As : List Asn} {m k : List Bool} {sm : Sl} {cs ds : List (List Int)} {n n2 : Int}

theorem bits_false (n : Nat) : bitsL (List.replicate n false) = List.replicate n 0 := by simp [bitI]

theorem rnext_c (hA : At h (li (bitsL k) s)) (hl : k.length ≤ 1048576) :
    callT Tryz.prog fn_salvorref05_next #[.slice s.a s.len s.cap] (.tup (.cons .sl (.cons .bool .nil)))
      (fun r h' => ∃ s', r = (s', (Cr.nextB k).isSome, ()) ∧ (∃ k', k'.length = k.length ∧ New h.size h' (io (bitsL k') s') ∧ ∀ q, Cr.nextB k = some q → k' = q) ∧ Ext [] h h') h := by
  refine callT_gen fun K hK => S_salvorref05_next (a0 := s) K ?_
  unfold F_salvorref05_next
  have st := Hs.start h [li (bitsL k) s] (by simp [hA])
  refine st.nw fun b0 h1 st => ?_
  have st := st.asSl 0 i64.enc [] rfl rfl
  simp only [List.nil_append, List.set_cons_zero] at st
  refine Hs.apdS (τ := i64) st 0 rfl (st.fz 0 rfl) leaf_int (by simp; omega) (by decide) fun s1 h2 st => ?_
  simp only [List.nil_append, List.set_cons_zero] at st
  have ls := osl_len (st.own 0 rfl)
  simp only [List.length_map] at ls
  -- the places from i + 1 on have been turned to 0
  refine lfp_invh (I := fun μ σ h' => ∃ (i : Nat) (u : Bool) (w : Sl), σ = ((i : Int) - 1, u, w, ()) ∧ i ≤ k.length ∧ Cr.nextB (k.drop i) = none ∧ Hs [([], h)] [li (bitsL k) s] [io (bitsL (k.take i ++ List.replicate (k.length - i) false)) s1] h' ∧ μ = i)
    ⟨_, k.length, false, ⟨none, 0, 0⟩, by rw [ls, wrap_i64 (by omega) (by omega)], by omega, by simp [Cr.nextB], by simpa using st, rfl⟩ ?_
  clear st
  rintro μ σ h' X ⟨i, u, w, rfl, hi, hn, st, em⟩ hX
  simp only
  by_cases h0 : 0 < i
  · obtain ⟨j, rfl⟩ : ∃ j, i = j + 1 := ⟨i - 1, by omega⟩
    have ej : ((j + 1 : Nat) : Int) - 1 = (j : Int) := by omega
    rw [ej]
    have hj : j < k.length := by omega
    have hlen : (k.take (j + 1) ++ List.replicate (k.length - (j + 1)) false).length = k.length := by simp; omega
    have hjl : j < (bitsL (k.take (j + 1) ++ List.replicate (k.length - (j + 1)) false)).length := by rw [List.length_map, hlen]; exact hj
    have hat : (bitsL (k.take (j + 1) ++ List.replicate (k.length - (j + 1)) false))[j] = bitI k[j] := by
      rw [List.getElem_map, List.getElem_append_left (by simp; omega), List.getElem_take]
    have hset : ∀ b : Bool, (bitsL (k.take (j + 1) ++ List.replicate (k.length - (j + 1)) false)).set j (bitI b) = bitsL (k.take j ++ b :: List.replicate (k.length - (j + 1)) false) := fun b => by
      rw [← List.map_set]
      congr 1
      rw [take_succ_getE hj, List.append_assoc, List.set_append_right _ _ (by simp; omega)]
      simp [Nat.min_eq_left (Nat.le_of_lt hj)]
    have hkd : k.drop j = k[j] :: k.drop (j + 1) := List.drop_eq_getElem_cons hj
    refine brT (decide_eq_true (by omega)) ?_
    refine rdE (τ := i64) (st.own 0 rfl).rsl hjl ?_
    rw [hat]
    cases hb : k[j]
    · refine brT rfl ?_
      refine st.wrE (τ := i64) 0 rfl hjl 1 fun h3 st => ?_
      simp only [List.set_cons_zero] at st
      have e := hset true
      rw [show bitI true = 1 from rfl] at e
      rw [e] at st
      have hnx : Cr.nextB k = some (k.take j ++ true :: List.replicate (k.length - (j + 1)) false) := by
        have e2 : k = k.take j ++ false :: k.drop (j + 1) := by rw [← hb, ← hkd, List.take_append_drop]
        have e3 := Cr.nextB_app (p := k.take j) hn
        rw [← e2, List.length_drop] at e3
        exact e3
      refine hK _ _ ⟨s1, by rw [hnx]; rfl, ⟨_, ?_, st.res (by simp) 0 rfl, fun q hq => ?_⟩, st.frame (by simp)⟩
      · simp; omega
      · rw [hnx] at hq; exact Option.some.inj hq
    · refine brF rfl ?_
      refine st.wrE (τ := i64) 0 rfl hjl 0 fun h3 st => ?_
      simp only [List.set_cons_zero] at st
      have e := hset false
      rw [show bitI false = 0 from rfl] at e
      rw [e] at st
      rw [wrap_i64 (by omega) (by omega)]
      refine hX _ _ _ ⟨j, u, w, rfl, by omega, ?_, ?_, rfl⟩ (by omega)
      · rw [hkd, hb]; exact Cr.nextB_true hn
      · rw [show k.length - j = (k.length - (j + 1)) + 1 by omega, List.replicate_succ]; exact st
  · have e0 : i = 0 := by omega
    subst e0
    refine brF (decide_eq_false (by omega)) (hK _ _ ⟨s1, ?_, ⟨_, ?_, st.res (by simp) 0 rfl, fun q hq => ?_⟩, st.frame (by simp)⟩)
    · rw [show k = k.drop 0 from rfl, hn]; rfl
    · simp
    · rw [show k = k.drop 0 from rfl, hn] at hq; cases hq

theorem filter_take_succ {α : Type} {p : α → Bool} {l : List α} {i : Nat} {x : α} (hx : l[i]? = some x) : (l.take (i + 1)).filter p = (l.take i).filter p ++ (if p x then [x] else []) := by
  obtain ⟨hi, e⟩ := List.getElem?_eq_some_iff.1 hx
  rw [take_succ_getE hi, e, List.filter_append]
  congr 1
  simp only [List.filter_cons, List.filter_nil]

theorem rmodels_c {v : Nat} (hA : At h (lli cs s)) (hg : GoodF v cs) (hv : v ≤ 8) :
    callT Tryz.prog fn_salvorref05_Models #[.agg #[.int .i64 v, .slice s.a s.len s.cap]] .sl (fun s' h' => New h.size h' (lli ((modelsF v cs).map bitsL) s') ∧ Ext [] h h') h := by
  refine callT_gen fun K hK => S_salvorref05_Models (a0 := ((v : Int), s, ())) K ?_
  unfold F_salvorref05_Models
  have gl := good_len hg
  have st := Hs.start h [lli cs s] (by simp [hA])
  refine st.nw fun b0 h1 st => ?_
  simp only [List.nil_append] at st
  rw [st.ldi 0 0 rfl rfl]
  have hal := Cr.allB_len v
  have h256 : 2 ^ v ≤ 256 := by
    have : 2 ^ v ≤ 2 ^ 8 := Nat.pow_le_pow_right (by decide) hv
    simpa using this
  refine Hs.mks1 (τ := i64) (t := ty_int) (by_ := 8) (z := (0 : Int)) (n := v) st (by omega) (by decide) fun s2 h2 st => ?_
  simp only [List.nil_append, List.cons_append] at st
  rw [show osl ty_int i64.enc (List.replicate v (0 : Int)) s2 = io (bitsL (List.replicate v false)) s2 by rw [bits_false]] at st
  have st := (st.fresh (h0 := h) (by simp) 1 rfl).freeze 1 rfl
  simp only [List.nil_append, List.cons_append, List.eraseIdx_cons_zero, List.eraseIdx_cons_succ, List.set_cons_zero, List.set_cons_succ] at st
  have st := st.nil ty_sl_int Ty.sl.enc none
  simp only [List.nil_append, List.cons_append] at st
  let p : List Bool → Bool := fun m => decide (failsGo m 0 cs < 0)
  generalize hN : 2 ^ v = N at hal h256
  have hNpos : 0 < N := by rw [← hN]; exact Nat.pos_of_ne_zero (by simp)
  refine lfp_invh (I := fun μ σ h' => ∃ (more : Bool) (sm so : Sl) (i : Nat) (G' : List Asn) (ps : List Sl), σ = (more, sm, so, ()) ∧ i ≤ N ∧
      (more = true → ∃ k, (Cr.allB v)[i]? = some k ∧ newA h.size (io (bitsL k) sm) ∈ lli cs s :: G') ∧ (more = false → i = N) ∧
      ps.length = (((Cr.allB v).take i).filter p).length ∧ (∀ j (h1 : j < (((Cr.allB v).take i).filter p).length) (h2 : j < ps.length), newA h.size (io (bitsL (((Cr.allB v).take i).filter p)[j]) ps[j]) ∈ lli cs s :: G') ∧
      Hs [([], h)] (lli cs s :: G') [cl b0 ty_salvorref05_Formula [.int .i64 v, .slice s.a s.len s.cap], osl ty_sl_int Ty.sl.enc ps so] h' ∧ μ = N - i + (if more then 1 else 0))
    ⟨_, true, s2, ⟨none, 0, 0⟩, 0, _, [], rfl, by omega, fun _ => ⟨_, Cr.allB_zero v, by simp⟩, fun e => (by cases e), by simp, fun j h1 => (by simp at h1), st, rfl⟩ ?_
  clear st
  rintro μ σ h3 X ⟨more, sm, so, i, G', ps, rfl, hi, hT, hF, hpl, hrow, st, em⟩ hX
  simp only
  have key : ∀ k (hk : (Cr.allB v)[i]? = some k), (((Cr.allB v).take (i + 1)).filter p) = ((Cr.allB v).take i).filter p ++ (if p k then [k] else []) := fun k hk => filter_take_succ hk
  cases more with
  | true =>
    obtain ⟨k, hk, hkG⟩ := hT rfl
    have hkl : k.length = v := Cr.mem_allB.1 (List.mem_of_getElem? hk)
    have hiN : i < N := by rw [← hal]; exact (List.getElem?_eq_some_iff.1 hk).1
    refine brT rfl ?_
    refine ldF (s := s) (st.blk 0 rfl) ?_
    refine call_of (rfails_c (m := k) (st.fz 0 rfl) (At.rsl (newA_at (st.fzm hkG))) (fun c hc => by have := gl.2 c hc; omega) gl.1 (by rw [hkl]; exact hg.2.2)) ?_
    rintro _ h4 ⟨rfl, x4⟩
    have st := st.ext x4
    -- behind the meeting
    have tail : ∀ (J : Sl × Unit → HP), (∀ t h', (callT Tryz.prog fn_salvorref05_next #[(.slice sm.a sm.len sm.cap)] (.tup (.cons .sl (.cons .bool .nil))) fun r9 => X (r9.2.1, ⟨r9.1.a, r9.1.len, r9.1.cap⟩, ⟨t.1.a, t.1.len, t.1.cap⟩, ())) h' → J t h') →
        ∀ (so' : Sl) (ps' : List Sl) h5, ps'.length = (((Cr.allB v).take (i + 1)).filter p).length → (∀ j (h1 : j < (((Cr.allB v).take (i + 1)).filter p).length) (h2 : j < ps'.length), newA h.size (io (bitsL (((Cr.allB v).take (i + 1)).filter p)[j]) ps'[j]) ∈ lli cs s :: G') →
          Hs [([], h)] (lli cs s :: G') [cl b0 ty_salvorref05_Formula [.int .i64 v, .slice s.a s.len s.cap], osl ty_sl_int Ty.sl.enc ps' so'] h5 → J (so', ()) h5 := by
      intro J hJ so' ps' h5 hpl' hrow' st
      refine hJ _ _ ?_
      refine call_of (rnext_c (k := k) (At.rsl (newA_at (st.fzm hkG))) (by omega)) ?_
      rintro _ h6 ⟨s9, rfl, ⟨k', hk'l, n6, hk'⟩, x6⟩
      have st := ((st.new x6 n6).fresh (h0 := h) (by simp) 2 rfl).freeze 2 rfl
      simp only [List.nil_append, List.cons_append, List.eraseIdx_cons_zero, List.eraseIdx_cons_succ, List.set_cons_zero, List.set_cons_succ] at st
      have hsp := Cr.nextB_spec v i k hk
      refine hX _ _ _ ⟨(Cr.nextB k).isSome, s9, so', i + 1, _, ps', rfl, by omega, fun e => ?_, fun e => ?_, hpl', fun j h1 h2 => ?_, st, rfl⟩ ?_
      · obtain ⟨q, hq⟩ := Option.isSome_iff_exists.1 e
        have := hk' q hq
        subst this
        exact ⟨k', by rw [← hsp]; exact hq, by simp⟩
      · rw [Option.isSome_eq_false_iff, Option.isNone_iff_eq_none] at e
        rw [e] at hsp
        have := List.getElem?_eq_none_iff.1 hsp.symm
        omega
      · have := hrow' j h1 h2
        rw [List.mem_cons] at this ⊢
        exact this.imp id fun q => List.mem_append_left _ q
      · rw [em]; simp only [if_true]; split <;> omega
    refine jn_in fun J hJ => ?_
    by_cases hp : failsGo k 0 cs < 0
    · refine brT (decide_eq_true hp) ?_
      have hpk : p k = true := decide_eq_true hp
      refine st.nw fun b10 h5 st => ?_
      simp only [List.nil_append, List.cons_append] at st
      have hle : (((Cr.allB v).take i).filter p).length ≤ 256 := by
        refine Nat.le_trans (List.length_filter_le _ _) ?_
        rw [List.length_take]; omega
      refine Hs.apd (enc := Ty.sl.enc) (v := sm) st 1 2 rfl rfl (by decide) rfl (by omega) (by decide) rfl fun s11 h6 st => ?_
      simp only [List.set_cons_zero, List.set_cons_succ] at st
      have st := st.drop 2 rfl
      simp only [List.eraseIdx_cons_zero, List.eraseIdx_cons_succ] at st
      have ek := key k hk
      rw [hpk, if_pos rfl] at ek
      refine tail J hJ s11 (ps ++ [sm]) h6 (by rw [ek]; simp [hpl]) (fun j h1 h2 => ?_) st
      simp only [ek] at h1 ⊢
      by_cases hj : j < (((Cr.allB v).take i).filter p).length
      · rw [List.getElem_append_left hj, List.getElem_append_left (by omega)]; exact hrow j hj (by omega)
      · rw [List.getElem_append_right (by omega), List.getElem_append_right (by omega)]
        simp only [List.getElem_singleton]; exact hkG
    · refine brF (decide_eq_false hp) ?_
      have hpk : p k = false := decide_eq_false hp
      have ek := key k hk
      rw [hpk] at ek
      simp only [Bool.false_eq_true, if_false, List.append_nil] at ek
      refine tail J hJ so ps h4 (by rw [ek]; exact hpl) (fun j h1 h2 => ?_) st
      simp only [ek] at h1 ⊢
      exact hrow j h1 h2
  | false =>
    have ei := hF rfl
    subst ei
    refine brF rfl (hK _ _ ⟨?_, st.frame (by simp)⟩)
    have e1 : ((Cr.allB v).take i).filter p = modelsF v cs := by rw [List.take_of_length_le (by omega)]; rfl
    rw [e1] at hpl hrow
    refine rsg_new (ps := ps) (by simpa using hpl) (st.res (by simp) 1 rfl).rsl fun j h1 h2 => ?_
    have := newA_new (st.fzm (hrow j (by simpa using h1) h2))
    simpa using New.rsl this

end Go.Proofs.S

set_option linter.unusedVariables false
set_option linter.unusedSimpArgs false
namespace Go.Fo
open Go

theorem nodup_le {α : Type} [DecidableEq α] : ∀ {A B : List α}, A.Nodup → (∀ x ∈ A, x ∈ B) → A.length ≤ B.length
  | [], B, _, _ => by simp
  | x :: A, B, nd, h => by
    obtain ⟨n1, n2⟩ := List.nodup_cons.1 nd
    have hx := h x (by simp)
    have := nodup_le (A := A) (B := B.erase x) n2 fun y hy => by
      have hne : y ≠ x := fun e => n1 (e ▸ hy)
      exact (List.mem_erase_of_ne hne).2 (h y (by simp [hy]))
    rw [List.length_erase_of_mem hx] at this
    have := List.length_pos_of_mem hx
    simp; omega
theorem half {α : Type} [DecidableEq α] {L : List α} (nd : L.Nodup) {f : α → α} (hf : ∀ x ∈ L, f x ∈ L ∧ f (f x) = x) {t : α → Bool} (ht : ∀ x ∈ L, t (f x) = !t x) : L.length = 2 * (L.filter t).length := by
  have inj : ∀ p : α → Bool, ((L.filter p).map f).Nodup := fun p => by
    rw [List.Nodup, List.pairwise_map]
    have h1 : (L.filter p).Pairwise (· ≠ ·) := nd.filter _
    refine h1.imp_of_mem fun {a b} ha hb hne e => hne ?_
    have h1 := (hf a (List.mem_filter.1 ha).1).2
    have h2 := (hf b (List.mem_filter.1 hb).1).2
    rw [← h1, ← h2, e]
  have a : (L.filter t).length ≤ (L.filter fun x => !t x).length := by
    have := nodup_le (inj t) (B := L.filter fun x => !t x) fun y hy => by
      obtain ⟨x, hx, rfl⟩ := List.mem_map.1 hy
      obtain ⟨h1, h2⟩ := List.mem_filter.1 hx
      exact List.mem_filter.2 ⟨(hf x h1).1, by rw [ht x h1, h2]; rfl⟩
    simpa using this
  have b : (L.filter fun x => !t x).length ≤ (L.filter t).length := by
    have := nodup_le (inj fun x => !t x) (B := L.filter t) fun y hy => by
      obtain ⟨x, hx, rfl⟩ := List.mem_map.1 hy
      obtain ⟨h1, h2⟩ := List.mem_filter.1 hx
      exact List.mem_filter.2 ⟨(hf x h1).1, by rw [ht x h1]; exact h2⟩
    simpa using this
  have c : (L.filter t).length + (L.filter fun x => !t x).length = L.length := by
    clear a b inj hf ht nd
    induction L with
    | nil => rfl
    | cons x L ih =>
      simp only [List.filter_cons]
      cases t x <;> simp <;> omega
  omega

end Go.Fo
