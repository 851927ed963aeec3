/-
  The package formula: Norm: contract.
-/
import Derived.Test.YtfadkgkkbbcekaaFoI
import Derived.Test.YtfadkgkkbbcekaaSxW3
import Derived.Test.YtfadkgkkbbcekaaClT
import Derived.Test.YtfadkgkkbbcekaaSxCp
import Derived.Test.YtfadkgkkbbcekaaSxSg
import Derived.Test.YtfadkgkkbbcekaaSxCk
set_option linter.unusedVariables false
set_option linter.unusedSimpArgs false
namespace Go.Cl
open Go Go.Sx

end Go.Cl
namespace Go.Proofs.S
open Go Go.Sx Go.Proofs Go.Cl

variable {h : Heap} {c d : List Int} {s s2 : Sl} {fr : Fr} {G As : List Asn} {m : List Bool} {sm : Sl}

end Go.Proofs.S

set_option linter.unusedVariables false
set_option linter.unusedSimpArgs false
namespace Go.Proofs.S
open Go Go.Sx Go.Proofs Go.Cl

variable {h : Heap} {c d : List Int} {s s2 : Sl} {fr : Fr} {G As : List Asn} {m : List Bool} {sm : Sl}

theorem lawOf_c {n : Int} {cs : List (List Int)} (hA : At h (lli cs s)) (hl : cs.length ≤ 1048576) (hc : ∀ c ∈ cs, c.length ≤ 1048576) :
    callT Try.prog fn_salvorlaw05_Of #[.int .i64 n, .slice s.a s.len s.cap] (.agg (.cons (.int .i64) (.cons .sl .nil))) (fun r h' => ∃ s', r = (n, s', ()) ∧ New h.size h' (llo cs s') ∧ Ext [] h h') h := by
  refine callT_gen fun K hK => S_salvorlaw05_Of (a0 := n) (a1 := s) K ?_
  unfold F_salvorlaw05_Of
  have st := Hs.start h [lli cs s] (by simp [hA])
  have l1 := rsg_len hA
  refine st.nw fun b0 h1 st => ?_
  refine st.nw fun b1 h2 st => ?_
  simp only [addr_add, Nat.zero_add, List.nil_append, List.cons_append] at st ⊢
  refine st.st1 1 0 rfl (by simp) fun h4 st => ?_
  refine st.st1 1 1 rfl (by simp) fun h5 st => ?_
  simp only [List.set_cons_zero, List.set_cons_succ] at st
  have st := st.nilg (fun c p => lo c p) ty_clauses_Clause none
  simp only [List.nil_append, List.cons_append] at st
  refine lfp_invh (I := fun m σ h' => ∃ (i : Nat) (s' : Sl), σ = ((i : Int), ()) ∧ i ≤ cs.length ∧
      Hs [([], h)] [lli cs s] [cl b0 ty_formula_Formula [.int .i64 0, .slice none 0 0], cl b1 ty_formula_Formula [.int .i64 n, .slice s'.a s'.len s'.cap], llo (cs.take i) s'] h' ∧ m = cs.length - i)
    ⟨_, 0, ⟨none, 0, 0⟩, rfl, by omega, st, rfl⟩ ?_
  clear st
  rintro m1 σ h6 X ⟨i, s', rfl, hi, st, em⟩ hX
  simp only
  by_cases hlt : i < cs.length
  · rw [show decide ((i : Int) < (s.len : Int)) = true by rw [l1]; exact dlt_t hlt, brB_true, inc_i (show i < 4611686018427387904 by omega)]
    refine rdG (st.fz 0 rfl) hlt fun p hp => ?_
    rw [st.lds 1 1 rfl rfl]
    refine call_of (clause_c hp (hc _ (List.getElem_mem hlt))) ?_
    rintro r7 h7 ⟨n7, x7⟩
    have st := st.new x7 n7
    simp only [List.nil_append, List.cons_append] at st
    rw [st.ck 1 1 rfl rfl]
    refine st.nw fun b8 h8 st => ?_
    simp only [List.nil_append, List.cons_append] at st
    refine Hs.apdG (I := fun c p => lo c p) (x := cs[i]) (p := r7) st 2 4 3 rfl rfl rfl (by decide) (by decide) (by simp; omega) (by decide) rfl fun s9 h9 st => ?_
    simp only [List.set_cons_zero, List.set_cons_succ] at st
    refine st.st1 1 1 rfl (by simp) fun h10 st => ?_
    simp only [List.set_cons_zero, List.set_cons_succ] at st
    refine hX _ _ _ ⟨i + 1, s9, rfl, by omega, ?_, rfl⟩ (by omega)
    rw [take_succ_getE hlt]; exact (st.drop 4 rfl).drop 3 rfl
  · rw [show decide ((i : Int) < (s.len : Int)) = false by rw [l1]; exact dlt_f hlt, brB_false]
    rw [List.take_of_length_le (by omega)] at st
    refine ldF (s := s') (st.blk 1 rfl) ?_
    refine st.st1 0 0 rfl (by simp) fun h7 st => ?_
    refine st.st1 0 1 rfl (by simp) fun h8 st => ?_
    refine ldF (s := s') (st.blk 0 rfl) ?_
    exact hK _ _ ⟨s', rfl, st.res (by simp) 2 rfl, st.frame (by simp)⟩

theorem modelsF_row {v : Nat} {cs : List (List Int)} {m : List Bool} (h : m ∈ modelsF v cs) : m.length = v ∧ failsGo m 0 cs < 0 := by
  unfold modelsF at h
  obtain ⟨a, b⟩ := List.mem_filter.1 h
  exact ⟨Cr.mem_allB.1 a, of_decide_eq_true b⟩

end Go.Proofs.S

set_option linter.unusedVariables false
set_option linter.unusedSimpArgs false
namespace Go.Proofs.S
open Go Go.Sx Go.Proofs Go.Cl

variable {h : Heap} {c d : List Int} {s s2 : Sl} {fr : Fr} {G As : List Asn} {m : List Bool} {sm : Sl} {k k2 : List Bool}

theorem bne_iffB (x y : Bool) : (!(x == y)) = true ↔ x ≠ y := by cases x <;> cases y <;> simp
theorem eq_of_iff {b : Bool} {p : Prop} [Decidable p] (h : b = true ↔ p) : b = decide p := by
  cases b with
  | true => exact (decide_eq_true (h.1 rfl)).symm
  | false => exact (decide_eq_false fun hp => by cases h.2 hp).symm
theorem equal_bools (hA : At h (lb k s)) (hB : At h (lb k2 s2)) (hl : k.length ≤ 1099511627776) : callT Try.prog fn_slices_Equal_bool_bool #[.slice s.a s.len s.cap, .slice s2.a s2.len s2.cap] .bool (fun r h' => r = decide (k = k2) ∧ h' = h) h :=
  callT_gen fun K hK => S_slices_Equal_bool_bool (a0 := s) (a1 := s2) K (w_equal (τ := .bool) bne_iffB hA hB hl fun b hb => hK _ _ ⟨eq_of_iff hb, rfl⟩)

theorem ckF {b : Nat} {t : TypeId} {n : Int} {K : HP} (hb : Blk h b t [.int .i64 n, .slice s.a s.len s.cap]) (hK : K h) : ckA ⟨b, 0, none⟩ [.int .i64 n, .slice s.a s.len s.cap] K h :=
  ⟨CellsAt_blk' _ hb 0 (by
    intro j hj
    match j, hj with
    | 0, _ => rfl
    | 1, _ => rfl
    | j + 2, hj => exact absurd (show j + 2 < 2 from hj) (by omega)), hK⟩
theorem llo_at {cs : List (List Int)} (hA : At h (llo cs s)) : At h (lli cs s) := rsgA_mono (fun c p S h q => osl_rsl q) (At.rsg hA)
theorem nil_li : At h (li [] ⟨none, 0, 0⟩) := (osl_nil (t := 0) (enc := i64.enc) (a := none) 0 h).at.rsl
theorem nil_lli : At h (lli [] ⟨none, 0, 0⟩) := llo_at (osg_nil (a := none) 0 h).at
theorem rows1_at {p : Sl} (hA : At h (rsl Ty.sl.enc [p] s)) (h1 : At h (li c p)) : At h (lli [c] s) :=
  rsg_at (ps := [p]) rfl hA fun i h2 h3 => by
    match i, h2 with
    | 0, _ => exact h1
theorem rows2_at {p q : Sl} (hA : At h (rsl Ty.sl.enc [p, q] s)) (h1 : At h (li c p)) (h2 : At h (li d q)) : At h (lli [c, d] s) :=
  rsg_at (ps := [p, q]) rfl hA fun i h3 h4 => by
    match i, h3 with
    | 0, _ => exact h1
    | 1, _ => exact h2
end Go.Proofs.S

set_option linter.unusedVariables false
namespace Go.Sx
open Go

section
variable {fr : Fr} {G As : List Asn} {h : Heap} {τ : Ty} {t : TypeId}

end
end Go.Sx

set_option linter.unusedVariables false
namespace Go.Sx
open Go

section
variable {P : Program} {h h' : Heap} {s : Sl}

end

section
variable {α : Type} {enc : α → List Value} {xs : List α} {s : Sl} {fr : Fr} {G As : List Asn} {h : Heap} {t : TypeId}

end
end Go.Sx
