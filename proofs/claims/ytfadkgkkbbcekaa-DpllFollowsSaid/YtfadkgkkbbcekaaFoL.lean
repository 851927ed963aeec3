/-
  The package formula: Norm: contract.
-/
import Derived.Test.YtfadkgkkbbcekaaFoI
import Derived.Test.YtfadkgkkbbcekaaSxW3
import Derived.Test.YtfadkgkkbbcekaaClT
import Derived.Test.YtfadkgkkbbcekaaSxCp
import Derived.Test.YtfadkgkkbbcekaaSxSg
import Derived.Test.YtfadkgkkbbcekaaSxCk
set_option linter.unusedVariables false
set_option linter.unusedSimpArgs false
namespace Go.Cl
open Go Go.Sx

def Nf (c : List Int) : Prop := rightC c = true ∧ nrm c = c
theorem totC : TotC Nf compareP where
  zero := fun {a b} ha hb => by
    have := same_compare ha.1 hb.1
    unfold sameP at this
    rw [ha.1, hb.1, Bool.true_and, Bool.true_and, ha.2, hb.2] at this
    constructor
    · intro h
      rw [h] at this
      exact of_decide_eq_true (this.trans (by rfl))
    · intro h
      rw [decide_eq_true h] at this
      exact eq_of_beq this.symm
  anti := fun {a b} ha hb => by have := compare_anti ha.1 hb.1; omega
  trans := fun {a b d} ha hb hd h k => compare_trans ha.1 hb.1 hd.1 h k
def normL (cs : List (List Int)) : List (List Int) := sortC compareP ((cs.filter fun c => !alwaysC c).map nrm)
def normF (n : Int) (cs : List (List Int)) : (Int × List (List Int)) × Int := if (checkP n cs).2 ≠ 0 then ((0, []), (checkP n cs).2) else ((n, normL cs), 0)
theorem nf_nrm {c : List Int} (h : rightC c = true) : Nf (nrm c) := ⟨right_nrm h, nrm_nrm h⟩

end Go.Cl
namespace Go.Proofs.S
open Go Go.Sx Go.Proofs Go.Cl

variable {h : Heap} {c d : List Int} {s s2 : Sl} {fr : Fr} {G As : List Asn} {m : List Bool} {sm : Sl}

theorem encIi (x y : Int) (h : i64.enc x = i64.enc y) : x = y := by
  have h : Value.int .i64 x = .int .i64 y := h
  injection h
abbrev lgo (cs : List (List Int)) (s : Sl) : Asn := rsg (fun c p => lo c p) cs s
theorem lgo_lli {n : Nat} {cs : List (List Int)} (hA : New n h (lgo cs s)) : New n h (lli cs s) := frsg_mono (fun c p S h q => osl_rsl q) hA

end Go.Proofs.S

set_option linter.unusedVariables false
set_option linter.unusedSimpArgs false
namespace Go.Proofs.S
open Go Go.Sx Go.Proofs Go.Cl

variable {h : Heap} {c d : List Int} {s s2 : Sl} {fr : Fr} {G As : List Asn} {m : List Bool} {sm : Sl}

theorem lawOf_c {n : Int} {cs : List (List Int)} (hA : At h (lli cs s)) (hl : cs.length ≤ 1048576) (hc : ∀ c ∈ cs, c.length ≤ 1048576) :
    callT Try.prog fn_salvorlaw05_Of #[.int .i64 n, .slice s.a s.len s.cap] (.agg (.cons (.int .i64) (.cons .sl .nil))) (fun r h' => ∃ s', r = (n, s', ()) ∧ New h.size h' (llo cs s') ∧ Ext [] h h') h := by
  refine callT_gen fun K hK => S_salvorlaw05_Of (a0 := n) (a1 := s) K ?_
  unfold F_salvorlaw05_Of
  have st := Hs.start h [lli cs s] (by simp [hA])
  have l1 := rsg_len hA
  refine st.nw fun b0 h1 st => ?_
  refine st.nw fun b1 h2 st => ?_
  simp only [addr_add, Nat.zero_add, List.nil_append, List.cons_append] at st ⊢
  refine st.st1 1 0 rfl (by simp) fun h4 st => ?_
  refine st.st1 1 1 rfl (by simp) fun h5 st => ?_
  simp only [List.set_cons_zero, List.set_cons_succ] at st
  have st := st.nilg (fun c p => lo c p) ty_clauses_Clause none
  simp only [List.nil_append, List.cons_append] at st
  refine lfp_invh (I := fun m σ h' => ∃ (i : Nat) (s' : Sl), σ = ((i : Int), ()) ∧ i ≤ cs.length ∧
      Hs [([], h)] [lli cs s] [cl b0 ty_formula_Formula [.int .i64 0, .slice none 0 0], cl b1 ty_formula_Formula [.int .i64 n, .slice s'.a s'.len s'.cap], llo (cs.take i) s'] h' ∧ m = cs.length - i)
    ⟨_, 0, ⟨none, 0, 0⟩, rfl, by omega, st, rfl⟩ ?_
  clear st
  rintro m1 σ h6 X ⟨i, s', rfl, hi, st, em⟩ hX
  simp only
  by_cases hlt : i < cs.length
  · rw [show decide ((i : Int) < (s.len : Int)) = true by rw [l1]; exact dlt_t hlt, brB_true, inc_i (show i < 4611686018427387904 by omega)]
    refine rdG (st.fz 0 rfl) hlt fun p hp => ?_
    rw [st.lds 1 1 rfl rfl]
    refine call_of (clause_c hp (hc _ (List.getElem_mem hlt))) ?_
    rintro r7 h7 ⟨n7, x7⟩
    have st := st.new x7 n7
    simp only [List.nil_append, List.cons_append] at st
    rw [st.ck 1 1 rfl rfl]
    refine st.nw fun b8 h8 st => ?_
    simp only [List.nil_append, List.cons_append] at st
    refine Hs.apdG (I := fun c p => lo c p) (x := cs[i]) (p := r7) st 2 4 3 rfl rfl rfl (by decide) (by decide) (by simp; omega) (by decide) rfl fun s9 h9 st => ?_
    simp only [List.set_cons_zero, List.set_cons_succ] at st
    refine st.st1 1 1 rfl (by simp) fun h10 st => ?_
    simp only [List.set_cons_zero, List.set_cons_succ] at st
    refine hX _ _ _ ⟨i + 1, s9, rfl, by omega, ?_, rfl⟩ (by omega)
    rw [take_succ_getE hlt]; exact (st.drop 4 rfl).drop 3 rfl
  · rw [show decide ((i : Int) < (s.len : Int)) = false by rw [l1]; exact dlt_f hlt, brB_false]
    rw [List.take_of_length_le (by omega)] at st
    refine ldF (s := s') (st.blk 1 rfl) ?_
    refine st.st1 0 0 rfl (by simp) fun h7 st => ?_
    refine st.st1 0 1 rfl (by simp) fun h8 st => ?_
    refine ldF (s := s') (st.blk 0 rfl) ?_
    exact hK _ _ ⟨s', rfl, st.res (by simp) 2 rfl, st.frame (by simp)⟩

abbrev llu (cs : List (List Int)) (s : Sl) : Asn := rsg (fun c p => lu c p) cs s
def madeF (cs : List (List Int)) : List (List Int) := (cs.take 30).map madeP
theorem madeF_len (cs : List (List Int)) : (madeF cs).length ≤ 30 := by unfold madeF; simp; omega

theorem rsgcap {β : Type} {I : β → Sl → Asn} {xs : List β} (hA : At h (rsg I xs s)) : s.len ≤ s.cap := by
  obtain ⟨ps, _, ho, _⟩ := rsg_open hA
  exact rsl_cap ho
theorem rsgtake {β : Type} {I : β → Sl → Asn} {xs : List β} (hA : At h (rsg I xs s)) {n : Nat} (hn : n ≤ xs.length) : At h (rsg I (xs.take n) (slR s 0 n 1)) := by
  obtain ⟨ps, hl, ho, hx⟩ := rsg_open hA
  have h1 := rsl_sub ho (l := 0) (m := n) (by omega) (by omega)
  rw [List.drop_zero] at h1
  refine rsg_at (ps := ps.take n) (by simp; omega) h1 fun i h1 h2 => ?_
  rw [List.getElem_take, List.getElem_take]
  exact hx i _ _

theorem lawMade_c {cs : List (List Int)} (hA : At h (llu cs s)) (hu : ∀ c ∈ cs, U8 c) :
    callT Try.prog fn_salvorlaw05_Made #[.slice s.a s.len s.cap] (.agg (.cons (.int .i64) (.cons .sl .nil))) (fun r h' => ∃ s', r = (8, s', ()) ∧ New h.size h' (llo (madeF cs) s') ∧ Ext [] h h') h := by
  refine callT_gen fun K hK => S_salvorlaw05_Made (a0 := s) K ?_
  unfold F_salvorlaw05_Made
  have l1 := rsg_len hA
  have c1 := rsgcap hA
  have hS : At h (llu (cs.take 30) (slR ⟨s.a, s.len, s.cap⟩ 0 (min cs.length 30) 1)) := by
    have := rsgtake hA (n := min cs.length 30) (by omega)
    have e : List.take (min cs.length 30) cs = cs.take 30 := by
      rcases Nat.le_total cs.length 30 with k | k
      · rw [Nat.min_eq_left k, List.take_length, List.take_of_length_le k]
      · rw [Nat.min_eq_right k]
    rw [e] at this; exact this
  have em : (if (30 : Int) < (s.len : Int) then (30 : Int) else (s.len : Int)) = ((min cs.length 30 : Nat) : Int) := by split <;> omega
  have hcap : min cs.length 30 ≤ s.cap := by omega
  rw [em]
  have hn : ∀ {K : Sl → HP} {h' : Heap}, K (slR ⟨s.a, s.len, s.cap⟩ 0 (min cs.length 30) 1) h' → slH ⟨s.a, s.len, s.cap⟩ ((min cs.length 30 : Nat) : Int) 1 K h' := fun hk => ⟨Int.natCast_nonneg _, Int.ofNat_le.2 hcap, by rw [Int.toNat_natCast]; exact hk⟩
  unfold madeF at hK
  have hu2 : ∀ c ∈ cs.take 30, U8 c := fun n hn => hu n (List.mem_of_mem_take hn)
  have hl2 : (cs.take 30).length ≤ 30 := by simp; omega
  generalize cs.take 30 = ds at *
  have l3 := rsg_len hS
  generalize hs0 : slR ⟨s.a, s.len, s.cap⟩ 0 (min cs.length 30) 1 = s0 at *
  have st := Hs.start h [llu ds s0] (by simp [hS])
  refine st.nw fun b0 h1 st => ?_
  refine st.nw fun b1 h2 st => ?_
  simp only [addr_add, Nat.zero_add, List.nil_append, List.cons_append] at st ⊢
  refine st.st1 1 0 rfl (by simp) fun h4 st => ?_
  refine st.st1 1 1 rfl (by simp) fun h5 st => ?_
  simp only [List.set_cons_zero, List.set_cons_succ] at st
  refine hn ?_
  have st := st.nilg (fun c p => lo c p) ty_clauses_Clause none
  simp only [List.nil_append, List.cons_append] at st
  refine lfp_invh (I := fun m σ h' => ∃ (i : Nat) (s' : Sl), σ = ((i : Int), ()) ∧ i ≤ ds.length ∧
      Hs [([], h)] [llu ds s0] [cl b0 ty_formula_Formula [.int .i64 0, .slice none 0 0], cl b1 ty_formula_Formula [.int .i64 8, .slice s'.a s'.len s'.cap], llo ((ds.take i).map madeP) s'] h' ∧ m = ds.length - i)
    ⟨_, 0, ⟨none, 0, 0⟩, rfl, by omega, st, rfl⟩ ?_
  clear st
  rintro m1 σ h6 X ⟨i, s', rfl, hi, st, em⟩ hX
  simp only
  by_cases hlt : i < ds.length
  · rw [show decide ((i : Int) < (s0.len : Int)) = true by rw [l3]; exact dlt_t hlt, brB_true, inc_i (show i < 4611686018427387904 by omega)]
    refine rdG (st.fz 0 rfl) hlt fun p hp => ?_
    rw [st.lds 1 1 rfl rfl]
    refine call_of (made_c hp (hu2 _ (List.getElem_mem hlt))) ?_
    rintro r7 h7 ⟨n7, x7⟩
    have st := st.new x7 n7
    simp only [List.nil_append, List.cons_append] at st
    rw [st.ck 1 1 rfl rfl]
    refine st.nw fun b8 h8 st => ?_
    simp only [List.nil_append, List.cons_append] at st
    refine Hs.apdG (I := fun c p => lo c p) (x := madeP ds[i]) (p := r7) st 2 4 3 rfl rfl rfl (by decide) (by decide) (by simp; omega) (by decide) rfl fun s9 h9 st => ?_
    simp only [List.set_cons_zero, List.set_cons_succ] at st
    refine st.st1 1 1 rfl (by simp) fun h10 st => ?_
    simp only [List.set_cons_zero, List.set_cons_succ] at st
    refine hX _ _ _ ⟨i + 1, s9, rfl, by omega, ?_, rfl⟩ (by omega)
    rw [take_succ_getE hlt, List.map_append]; exact (st.drop 4 rfl).drop 3 rfl
  · rw [show decide ((i : Int) < (s0.len : Int)) = false by rw [l3]; exact dlt_f hlt, brB_false]
    rw [List.take_of_length_le (by omega)] at st
    refine ldF (s := s') (st.blk 1 rfl) ?_
    refine st.st1 0 0 rfl (by simp) fun h7 st => ?_
    refine st.st1 0 1 rfl (by simp) fun h8 st => ?_
    refine ldF (s := s') (st.blk 0 rfl) ?_
    exact hK _ _ ⟨s', rfl, st.res (by simp) 2 rfl, st.frame (by simp)⟩

theorem modelsF_row {v : Nat} {cs : List (List Int)} {m : List Bool} (h : m ∈ modelsF v cs) : m.length = v ∧ failsGo m 0 cs < 0 := by
  unfold modelsF at h
  obtain ⟨a, b⟩ := List.mem_filter.1 h
  exact ⟨Cr.mem_allB.1 a, of_decide_eq_true b⟩

end Go.Proofs.S

set_option linter.unusedVariables false
set_option linter.unusedSimpArgs false
namespace Go.Proofs.S
open Go Go.Sx Go.Proofs Go.Cl

variable {h : Heap} {c d : List Int} {s s2 : Sl} {fr : Fr} {G As : List Asn} {m : List Bool} {sm : Sl} {k k2 : List Bool}

theorem bne_iffB (x y : Bool) : (!(x == y)) = true ↔ x ≠ y := by cases x <;> cases y <;> simp
theorem eq_of_iff {b : Bool} {p : Prop} [Decidable p] (h : b = true ↔ p) : b = decide p := by
  cases b with
  | true => exact (decide_eq_true (h.1 rfl)).symm
  | false => exact (decide_eq_false fun hp => by cases h.2 hp).symm
theorem equal_bools (hA : At h (lb k s)) (hB : At h (lb k2 s2)) (hl : k.length ≤ 1099511627776) : callT Try.prog fn_slices_Equal_bool_bool #[.slice s.a s.len s.cap, .slice s2.a s2.len s2.cap] .bool (fun r h' => r = decide (k = k2) ∧ h' = h) h :=
  callT_gen fun K hK => S_slices_Equal_bool_bool (a0 := s) (a1 := s2) K (w_equal (τ := .bool) bne_iffB hA hB hl fun b hb => hK _ _ ⟨eq_of_iff hb, rfl⟩)

theorem ckF {b : Nat} {t : TypeId} {n : Int} {K : HP} (hb : Blk h b t [.int .i64 n, .slice s.a s.len s.cap]) (hK : K h) : ckA ⟨b, 0, none⟩ [.int .i64 n, .slice s.a s.len s.cap] K h :=
  ⟨CellsAt_blk' _ hb 0 (by
    intro j hj
    match j, hj with
    | 0, _ => rfl
    | 1, _ => rfl
    | j + 2, hj => exact absurd (show j + 2 < 2 from hj) (by omega)), hK⟩
theorem llo_at {cs : List (List Int)} (hA : At h (llo cs s)) : At h (lli cs s) := rsgA_mono (fun c p S h q => osl_rsl q) (At.rsg hA)
theorem lgo_at {cs : List (List Int)} (hA : At h (lgo cs s)) : At h (lli cs s) := rsgA_mono (fun c p S h q => osl_rsl q) hA
theorem nil_li : At h (li [] ⟨none, 0, 0⟩) := (osl_nil (t := 0) (enc := i64.enc) (a := none) 0 h).at.rsl
theorem nil_lli : At h (lli [] ⟨none, 0, 0⟩) := llo_at (osg_nil (a := none) 0 h).at
theorem rows1_at {p : Sl} (hA : At h (rsl Ty.sl.enc [p] s)) (h1 : At h (li c p)) : At h (lli [c] s) :=
  rsg_at (ps := [p]) rfl hA fun i h2 h3 => by
    match i, h2 with
    | 0, _ => exact h1
theorem rows2_at {p q : Sl} (hA : At h (rsl Ty.sl.enc [p, q] s)) (h1 : At h (li c p)) (h2 : At h (li d q)) : At h (lli [c, d] s) :=
  rsg_at (ps := [p, q]) rfl hA fun i h3 h4 => by
    match i, h3 with
    | 0, _ => exact h1
    | 1, _ => exact h2
theorem rows3_at {p q r : Sl} {e : List Int} (hA : At h (rsl Ty.sl.enc [p, q, r] s)) (h1 : At h (li c p)) (h2 : At h (li d q)) (h3 : At h (li e r)) : At h (lli [c, d, e] s) :=
  rsg_at (ps := [p, q, r]) rfl hA fun i h4 h5 => by
    match i, h4 with
    | 0, _ => exact h1
    | 1, _ => exact h2
    | 2, _ => exact h3

end Go.Proofs.S

set_option linter.unusedVariables false
namespace Go.Sx
open Go

section
variable {fr : Fr} {G As : List Asn} {h : Heap} {τ : Ty} {t : TypeId}

def lnA (t : TypeId) (τ : Ty) (n : Nat) (p : Sl) : Asn where
  P := fun S h => ∃ xs : List τ.T, xs.length = n ∧ (osl t τ.enc xs p).P S h
  loc := fun {S h h'} ⟨xs, e, q⟩ hz hk => ⟨xs, e, (osl t τ.enc xs p).loc q hz hk⟩
  cel := fun {S h} ⟨xs, e, q⟩ b hb => (osl t τ.enc xs p).cel q b hb

theorem lnA_set {n : Nat} {p : Sl} {S : List Nat} (hp : (lnA t τ n p).P S h) (b i : Nat) (v : τ.T) : (lnA t τ n p).P S (setC h ⟨b, i, none⟩ (τ.enc v)) := by
  obtain ⟨xs, e, q⟩ := hp
  rcases q with ⟨b2, rest, eS, es, hb⟩ | ⟨eS, ex, q⟩
  · by_cases hbb : b2 = b
    · subst hbb
      have hb2 := hb.set i (τ.enc v)
      by_cases hi : i < xs.length
      · refine ⟨xs.set i v, by simpa using e, .inl ⟨b2, rest, eS, by simpa using es, ?_⟩⟩
        rw [List.set_append_left _ _ (by simpa using hi)] at hb2
        simpa using hb2
      · refine ⟨xs, e, .inl ⟨b2, rest.set (i - xs.length) (τ.enc v), eS, by simpa using es, ?_⟩⟩
        rw [List.set_append_right _ _ (by simp; omega)] at hb2
        simpa using hb2
    · refine ⟨xs, e, .inl ⟨b2, rest, eS, es, hb.set_ne _ (by simpa using hbb)⟩⟩
  · exact ⟨xs, e, .inr ⟨eS, ex, q⟩⟩
theorem Inner.set_ln (b i : Nat) (v : τ.T) : ∀ {ns : List Nat} {ps : List Sl} {S : List Nat}, Inner (lnA t τ) ns ps S h → Inner (lnA t τ) ns ps S (setC h ⟨b, i, none⟩ (τ.enc v))
  | [], [], _, e => e
  | n :: ns, p :: ps, S, ⟨S1, S2, e, hp, hi⟩ => ⟨S1, S2, e, lnA_set hp b i v, Inner.set_ln b i v hi⟩
  | [], _ :: _, _, e => e.elim
  | _ :: _, [], _, e => e.elim
theorem Inner.getS {β : Type} {I : β → Sl → Asn} : ∀ {xs : List β} {ps : List Sl} {S : List Nat} {h : Heap}, Inner I xs ps S h → ∀ i (h1 : i < xs.length) (h2 : i < ps.length), ∃ S', (I xs[i] ps[i]).P S' h ∧ ∀ b ∈ S', b ∈ S
  | x :: xs, p :: ps, S, h, ⟨S1, S2, e, hp, hi⟩, 0, _, _ => ⟨S1, hp, fun b hb => by rw [e]; exact List.mem_append_left _ hb⟩
  | x :: xs, p :: ps, S, h, ⟨S1, S2, e, hp, hi⟩, i + 1, h1, h2 => by
    obtain ⟨S', a, c⟩ := Inner.getS hi i (Nat.lt_of_succ_lt_succ h1) (Nat.lt_of_succ_lt_succ h2)
    exact ⟨S', a, fun b hb => by rw [e]; exact List.mem_append_right _ (c b hb)⟩
  | [], _, _, _, _, i, h1, _ => by simp at h1
  | _, [], _, _, _, i, _, h2 => by simp at h2

theorem Inner.insert_in {β : Type} {I : β → Sl → Asn} {h : Heap} {x : β} {p : Sl} {S2 : List Nat} (hp : (I x p).P S2 h) : ∀ {n : Nat} {xs : List β} {ps : List Sl} {S : List Nat}, Inner I xs ps S h → ∃ S', Inner I (xs.take n ++ x :: xs.drop n) (ps.take n ++ p :: ps.drop n) S' h ∧ ∀ b ∈ S', b ∈ S ∨ b ∈ S2
  | 0, xs, ps, S, hi => ⟨S2 ++ S, ⟨S2, S, rfl, hp, hi⟩, fun b hb => (List.mem_append.1 hb).symm⟩
  | n + 1, [], [], S, hi => ⟨S2 ++ S, ⟨S2, S, rfl, hp, hi⟩, fun b hb => (List.mem_append.1 hb).symm⟩
  | n + 1, y :: xs, q :: ps, S, ⟨T1, T2, e, hq, hi⟩ => by
    obtain ⟨S', a, b⟩ := Inner.insert_in hp (n := n) hi
    refine ⟨T1 ++ S', ⟨T1, S', rfl, hq, a⟩, fun c hc => ?_⟩
    subst e
    rcases List.mem_append.1 hc with hc | hc
    · exact .inl (List.mem_append_left _ hc)
    · exact (b c hc).imp (List.mem_append_right _) id
  | n + 1, [], _ :: _, S, e => e.elim
  | n + 1, _ :: _, [], S, e => e.elim

theorem inner_ln : ∀ {xs : List (List τ.T)} {ps : List Sl} {S : List Nat} {h : Heap}, Inner (fun c p => osl t τ.enc c p) xs ps S h → Inner (lnA t τ) (xs.map List.length) ps S h
  | [], [], _, _, e => e
  | x :: xs, p :: ps, S, h, ⟨S1, S2, e, hp, hi⟩ => ⟨S1, S2, e, ⟨x, rfl, hp⟩, inner_ln hi⟩
  | [], _ :: _, _, _, e => e.elim
  | _ :: _, [], _, _, e => e.elim

theorem Hs.openLn {xs : List (List τ.T)} {s : Sl} {t2 : TypeId} (st : Hs fr G As h) (k : Nat) (hk : As[k]? = some (osg (fun c p => osl t τ.enc c p) t2 xs s)) :
    ∃ ps : List Sl, ps.length = xs.length ∧ Hs fr G (As.set k (osl t2 Ty.sl.enc ps s) ++ [inn (lnA t τ) (xs.map List.length) ps]) h := by
  obtain ⟨⟨ps, hl⟩, st⟩ := st.split (ι := { ps : List Sl // ps.length = xs.length }) (A1 := fun i => osl t2 Ty.sl.enc i.1 s) (A2 := fun i => inn (lnA t τ) (xs.map List.length) i.1) k hk fun S ⟨ps, S1, S2, e, hd, hp, hi⟩ =>
    ⟨⟨ps, hi.len⟩, S1, S2, e, hd, by rw [List.append_nil] at hp; exact hp, inner_ln hi⟩
  exact ⟨ps, hl, st⟩

theorem Hs.wrLn {ns : List Nat} {ps : List Sl} {K : HP} (st : Hs fr G As h) (k : Nat) (hk : As[k]? = some (inn (lnA t τ) ns ps)) {i j : Nat} (hi : i < ns.length) (hi2 : i < ps.length) (hj : j < ns[i]) (v : τ.T)
    (hK : ∀ h', Hs fr G As h' → K h') : sx ps[i].a ps[i].len (j : Int) 1 (fun p => Sx.st1 p (τ.enc v) K) h := by
  obtain ⟨S1, p, hw⟩ := st.focus k hk
  obtain ⟨S', ⟨xs, e, q⟩, hsub⟩ := Inner.getS p i hi hi2
  rcases q with ⟨b, rest, eS, es, hb⟩ | ⟨_, ex, _⟩
  · have e1 : ps[i].a = some ⟨b, 0, none⟩ ∧ ps[i].len = xs.length := by rw [es]; exact ⟨rfl, rfl⟩
    rw [e1.1, e1.2]
    refine ⟨_, rfl, by omega, Int.ofNat_lt.2 (by omega), ?_⟩
    rw [Int.toNat_natCast, Nat.mul_one, addr_add]
    show Sx.st1 _ _ _ _
    rw [st_ok hb (by simp; omega)]
    have hbS : b ∈ S1 := hsub b (by rw [eS]; simp)
    have st2 := hw (inn (lnA t τ) ns ps) S1 _ ((Ext.refl' S1 h).set ⟨b, 0 + j, none⟩ (τ.enc v) (.inl hbS)) (Inner.set_ln b (0 + j) v p) (fun b hb => .inl hb)
    have e3 : As.set k (inn (lnA t τ) ns ps) = As := by
      have := (List.getElem?_eq_some_iff.1 hk)
      obtain ⟨h1, h2⟩ := this
      rw [← h2, List.set_getElem_self]
    rw [e3] at st2
    exact hK _ st2
  · subst ex; simp at e; omega

theorem Hs.openG {β : Type} {I : β → Sl → Asn} {xs : List β} {s : Sl} {t2 : TypeId} (st : Hs fr G As h) (k : Nat) (hk : As[k]? = some (osg I t2 xs s)) :
    ∃ ps : List Sl, ps.length = xs.length ∧ Hs fr G (As.set k (osl t2 Ty.sl.enc ps s) ++ [inn I xs ps]) h := by
  obtain ⟨⟨ps, hl⟩, st⟩ := st.split (ι := { ps : List Sl // ps.length = xs.length }) (A1 := fun i => osl t2 Ty.sl.enc i.1 s) (A2 := fun i => inn I xs i.1) k hk fun S ⟨ps, S1, S2, e, hd, hp, hi⟩ =>
    ⟨⟨ps, hi.len⟩, S1, S2, e, hd, by rw [List.append_nil] at hp; exact hp, hi⟩
  exact ⟨ps, hl, st⟩

end
end Go.Sx

set_option linter.unusedVariables false
namespace Go.Sx
open Go

section
variable {P : Program} {h h' : Heap} {s : Sl}

theorem w_indexFuncG {β : Type} {I : β → Sl → Asn} {fv : Value} {p : β → Bool} {us : List β} (hA : At h (rsg I us s)) (hl : us.length ≤ 1099511627776)
    (hc : ∀ x ∈ us, ∀ q h', Ext [] h h' → At h' (I x q) → callF P fv #[Ty.sl.enc q] .bool (fun b h2 => b = p x ∧ Ext [] h' h2) h') {K : Int → HP}
    (hK : ∀ h', Ext [] h h' → K (fidx p us) h') : W_indexFunc P .sl s fv K h := by
  unfold W_indexFunc
  have l1 := rsg_len hA
  refine lfp_invh (I := fun m σ h' => ∃ i : Nat, σ = ((i : Int), 0, ()) ∧ i ≤ us.length ∧ (∀ j (hj : j < i) (h2 : j < us.length), p us[j] = false) ∧ Ext [] h h' ∧ m = us.length - i) ⟨_, 0, rfl, by omega, fun j hj => by omega, Ext.refl' _ _, rfl⟩ ?_
  rintro m σ h' X ⟨i, rfl, hi, hn, x, em⟩ hX
  simp only
  by_cases hlt : i < us.length
  · rw [show decide ((i : Int) < (s.len : Int)) = true by rw [l1]; exact dlt_t hlt, brB_true, inc_i (show i < 4611686018427387904 by omega)]
    refine rdG (hA.ext x) hlt fun q hq => ?_
    refine callF_of (hc _ (List.getElem_mem hlt) q h' x hq) ?_
    rintro r h2 ⟨er, x2⟩
    have er : r = p us[i] := er
    subst er
    cases hpx : p us[i] with
    | true =>
      rw [brB_true]
      have := hK h2 (x.nil_trans x2)
      rw [fidx_some hlt hpx fun j hj => hn j hj (by omega)] at this; exact this
    | false =>
      rw [brB_false]
      refine hX _ _ _ ⟨i + 1, rfl, by omega, fun j hj h3 => ?_, x.nil_trans x2, rfl⟩ (by omega)
      rcases Nat.lt_or_ge j i with q | q
      · exact hn j q h3
      · have : j = i := by omega
        subst this; exact hpx
  · rw [show decide ((i : Int) < (s.len : Int)) = false by rw [l1]; exact dlt_f hlt, brB_false]
    have := hK h' x
    rw [fidx_none fun j hj => hn j (by omega) hj] at this; exact this
end

theorem perm_swap {α : Type} {xs : List α} {i j : Nat} (hi : i < xs.length) (hj : j < xs.length) : ((xs.set i xs[j]).set j xs[i]).Perm xs := by
  have h := Array.swap_perm (xs := xs.toArray) (i := i) (j := j) (by simpa using hi) (by simpa using hj)
  have h2 := Array.perm_iff_toList_perm.1 h
  simpa [Array.swap_def] using h2

section
variable {α : Type} {enc : α → List Value} {xs : List α} {s : Sl} {fr : Fr} {G As : List Asn} {h : Heap} {t : TypeId}

theorem flat_set {n : Nat} (hw : Wide n enc) {x : α} : ∀ {xs : List α} {i : Nat}, i < xs.length → ((xs.set i x).map enc).flatten = ((xs.map enc).flatten.take (i * n)) ++ enc x ++ ((xs.map enc).flatten.drop (i * n + n))
  | y :: ys, 0, _ => by
    simp only [List.set_cons_zero, List.map_cons, List.flatten_cons, Nat.zero_mul, List.take_zero, List.nil_append, Nat.zero_add]
    congr 1
    rw [← hw y, List.drop_left]
  | y :: ys, i + 1, hi => by
    simp only [List.set_cons_succ, List.map_cons, List.flatten_cons]
    rw [flat_set hw (xs := ys) (by simpa using hi)]
    have e1 : (i + 1) * n = (enc y).length + i * n := by rw [hw y, Nat.succ_mul]; omega
    rw [e1, List.take_length_add_append, Nat.add_assoc, List.drop_length_add_append]
    simp

theorem Hs.wr3 {K : HP} (st : Hs fr G As h) (hw : Wide 3 enc) (k : Nat) (hk : As[k]? = some (osn t 3 enc xs s)) {i : Nat} (hi : i < xs.length) (x : α) {v0 v1 v2 : Value} (hx : enc x = [v0, v1, v2])
    (hK : ∀ h', Hs fr G (As.set k (osn t 3 enc (xs.set i x) s)) h' → K h') :
    sx s.a s.len (i : Int) 3 (fun p => Sx.st1 p v0 <| Sx.st1 (p.add 1) v1 <| Sx.st1 (p.add 2) v2 <| K) h := by
  obtain ⟨S1, p, hwr⟩ := st.focus k hk
  rcases p with ⟨b, rest, cap, eS, es, hr, hb⟩ | ⟨_, ex, _⟩
  · subst es
    refine ⟨_, rfl, Int.natCast_nonneg _, Int.ofNat_lt.2 hi, ?_⟩
    rw [Int.toNat_natCast]
    simp only [addr_add, Nat.zero_add]
    have hfl := flat_len hw xs
    have hle : i * 3 + 3 ≤ xs.length * 3 := by omega
    rw [st_ok hb (by simp [hfl]; omega)]
    have hb1 := hb.set (i * 3) v0
    rw [st_ok hb1 (by simp [hfl]; omega)]
    have hb2 := hb1.set (i * 3 + 1) v1
    rw [st_ok hb2 (by simp [hfl]; omega)]
    have hb3 := hb2.set (i * 3 + 2) v2
    refine hK _ (hwr (osn t 3 enc (xs.set i x) ⟨some ⟨b, 0, none⟩, xs.length, xs.length + cap⟩) [b] _ ((((Ext.refl' S1 h).set _ _ (by simp [eS])).set _ _ (by simp [eS])).set _ _ (by simp [eS])) (.inl ⟨b, rest, cap, rfl, by simp, hr, ?_⟩) (by simp [eS]))
    have e : ((((xs.map enc).flatten ++ rest).set (i * 3) v0).set (i * 3 + 1) v1).set (i * 3 + 2) v2 = ((xs.set i x).map enc).flatten ++ rest := by
      rw [flat_set hw hi, hx]
      generalize hF : (xs.map enc).flatten = F at *
      have hF3 : F.length = xs.length * 3 := hfl
      apply List.ext_getElem?
      intro j
      rw [List.getElem?_set, List.getElem?_set, List.getElem?_set]
      simp only [List.length_set, List.length_append]
      have hl1 : (F.take (i * 3)).length = i * 3 := by rw [List.length_take]; omega
      have hl2 : (F.take (i * 3) ++ [v0, v1, v2]).length = i * 3 + 3 := by rw [List.length_append, hl1]; rfl
      have hl3 : (F.take (i * 3) ++ [v0, v1, v2] ++ F.drop (i * 3 + 3)).length = F.length := by rw [List.length_append, hl2, List.length_drop]; omega
      rcases Nat.lt_or_ge j F.length with q | q
      · rw [List.getElem?_append_left (l₁ := F) q]
        rcases Nat.lt_or_ge j (i * 3) with q1 | q1
        · have hR : (F.take (i * 3) ++ [v0, v1, v2] ++ F.drop (i * 3 + 3) ++ rest)[j]? = F[j]? := by
            rw [List.getElem?_append_left (by omega), List.getElem?_append_left (by omega), List.getElem?_append_left (by omega), List.getElem?_take_of_lt q1]
          rw [hR, if_neg (by omega), if_neg (by omega), if_neg (by omega)]
        · rcases Nat.lt_or_ge j (i * 3 + 3) with q2 | q2
          · have hR : (F.take (i * 3) ++ [v0, v1, v2] ++ F.drop (i * 3 + 3) ++ rest)[j]? = [v0, v1, v2][j - i * 3]? := by
              rw [List.getElem?_append_left (by omega), List.getElem?_append_left (by omega), List.getElem?_append_right (by omega), hl1]
            rw [hR]
            have hj : j = i * 3 ∨ j = i * 3 + 1 ∨ j = i * 3 + 2 := by omega
            rcases hj with rfl | rfl | rfl
            · rw [if_neg (by omega), if_neg (by omega), if_pos rfl, if_pos (by omega), Nat.sub_self]; rfl
            · rw [if_neg (by omega), if_pos rfl, if_pos (by omega), Nat.add_sub_cancel_left]; rfl
            · rw [if_pos rfl, if_pos (by omega), Nat.add_sub_cancel_left]; rfl
          · have hR : (F.take (i * 3) ++ [v0, v1, v2] ++ F.drop (i * 3 + 3) ++ rest)[j]? = F[j]? := by
              rw [List.getElem?_append_left (by omega), List.getElem?_append_right (by omega), hl2, List.getElem?_drop]
              congr 1; omega
            rw [hR, if_neg (by omega), if_neg (by omega), if_neg (by omega)]
      · have hR : (F.take (i * 3) ++ [v0, v1, v2] ++ F.drop (i * 3 + 3) ++ rest)[j]? = rest[j - F.length]? := by
          rw [List.getElem?_append_right (by omega), hl3]
        rw [hR, List.getElem?_append_right (l₁ := F) q, if_neg (by omega), if_neg (by omega), if_neg (by omega)]
    rw [e] at hb3; exact hb3
  · subst ex; simp at hi
end
end Go.Sx
