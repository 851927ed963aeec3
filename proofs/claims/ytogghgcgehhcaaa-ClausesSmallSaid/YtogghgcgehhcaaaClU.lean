/-
  The laws' helpers: awake, Made, Model, one, pair.
-/
import Derived.Test.YtogghgcgehhcaaaClR
import Derived.Test.YtogghgcgehhcaaaClP
set_option linter.unusedVariables false
set_option linter.unusedSimpArgs false
namespace Go.Proofs.S
open Go Go.Sx Go.Proofs Go.Cl

variable {h : Heap} {c d : List Int} {s s2 : Sl} {fr : Fr} {G As : List Asn}


theorem u8_of {l : List Int} (hw : ∀ z ∈ l, 0 ≤ z ∧ z < 256) : ∀ n ∈ l, 0 ≤ n ∧ n ≤ 255 := fun n hn => by have := hw n hn; omega

theorem awake_c : callT Try.prog fn_salvorlaw02_awake #[] .bool (fun r h' => r = true ∧ Ext [] h h') h := by
  refine callT_gen fun K hK => S_salvorlaw02_awake K ?_
  unfold F_salvorlaw02_awake
  have e1 : normP [3, -1, 3] = ([-1, 3], false, 0) := by unfold normP; rw [nrm_T]; rfl
  have e2 : normP [2, -2] = ([2, -2], true, 0) := by unfold normP; rw [nrm_T]; rfl
  have e3 : resolveP [1, 2] [-1, 3] 1 = ([2, 3], 0) := by unfold resolveP unionP withoutP; rw [nrm_T]; rfl
  have e4 : resolveP [1, 2] [-1, 3] 2 = ([], 21) := by unfold resolveP unionP withoutP; rw [nrm_T]; rfl
  have e5 : resolveP [1, 2] [-1, -2] 1 = ([2, -2], 0) := by unfold resolveP unionP withoutP; rw [nrm_T]; rfl
  have e6 : clashesP [1, 2] [-1, -2] = ([1, 2], 0) := by unfold clashesP; rw [nrm_T]; rfl
  have e7 : compareP [5] [1, 2] = -1 := by unfold compareP; rw [nrm_T]; rfl
  have st := Hs.start h [] (by simp)
  refine st.nw fun b0 h0 st => ?_
  have st := st.asSl 0 i64.enc [3, -1, 3] rfl rfl
  try simp only [List.nil_append, List.cons_append, List.set_cons_zero, List.set_cons_succ, List.eraseIdx_cons_zero, List.eraseIdx_cons_succ, List.length_cons, List.length_nil, Nat.zero_add, Nat.reduceAdd] at st
  refine call_of (norm_c (st.own 0 rfl).rsl) ?_
  rintro _ h1 ⟨s1, rfl, n1, x1⟩
  have st := st.new x1 n1
  try simp only [List.nil_append, List.cons_append, List.set_cons_zero, List.set_cons_succ, List.eraseIdx_cons_zero, List.eraseIdx_cons_succ, List.length_cons, List.length_nil, Nat.zero_add, Nat.reduceAdd] at st
  rw [e1] at st
  have st := st.drop 0 rfl
  try simp only [List.nil_append, List.cons_append, List.set_cons_zero, List.set_cons_succ, List.eraseIdx_cons_zero, List.eraseIdx_cons_succ, List.length_cons, List.length_nil, Nat.zero_add, Nat.reduceAdd] at st
  refine st.nw fun b3 h3 st => ?_
  have st := st.asSl 1 i64.enc [2, -2] rfl rfl
  try simp only [List.nil_append, List.cons_append, List.set_cons_zero, List.set_cons_succ, List.eraseIdx_cons_zero, List.eraseIdx_cons_succ, List.length_cons, List.length_nil, Nat.zero_add, Nat.reduceAdd] at st
  refine call_of (norm_c (st.own 1 rfl).rsl) ?_
  rintro _ h4 ⟨s4, rfl, n4, x4⟩
  have st := st.new x4 n4
  try simp only [List.nil_append, List.cons_append, List.set_cons_zero, List.set_cons_succ, List.eraseIdx_cons_zero, List.eraseIdx_cons_succ, List.length_cons, List.length_nil, Nat.zero_add, Nat.reduceAdd] at st
  rw [e2] at st
  have st := st.drop 1 rfl
  try simp only [List.nil_append, List.cons_append, List.set_cons_zero, List.set_cons_succ, List.eraseIdx_cons_zero, List.eraseIdx_cons_succ, List.length_cons, List.length_nil, Nat.zero_add, Nat.reduceAdd] at st
  refine st.nw fun b6 h6 st => ?_
  have st := st.asSl 2 i64.enc [1, 2] rfl rfl
  try simp only [List.nil_append, List.cons_append, List.set_cons_zero, List.set_cons_succ, List.eraseIdx_cons_zero, List.eraseIdx_cons_succ, List.length_cons, List.length_nil, Nat.zero_add, Nat.reduceAdd] at st
  refine st.nw fun b7 h7 st => ?_
  have st := st.asSl 3 i64.enc [-1, 3] rfl rfl
  try simp only [List.nil_append, List.cons_append, List.set_cons_zero, List.set_cons_succ, List.eraseIdx_cons_zero, List.eraseIdx_cons_succ, List.length_cons, List.length_nil, Nat.zero_add, Nat.reduceAdd] at st
  refine call_of (resolve_c (st.own 2 rfl).rsl (st.own 3 rfl).rsl 1) ?_
  rintro _ h8 ⟨s8, rfl, n8, x8⟩
  have st := st.new x8 n8
  try simp only [List.nil_append, List.cons_append, List.set_cons_zero, List.set_cons_succ, List.eraseIdx_cons_zero, List.eraseIdx_cons_succ, List.length_cons, List.length_nil, Nat.zero_add, Nat.reduceAdd] at st
  rw [e3] at st
  have st := st.drop 3 rfl
  try simp only [List.nil_append, List.cons_append, List.set_cons_zero, List.set_cons_succ, List.eraseIdx_cons_zero, List.eraseIdx_cons_succ, List.length_cons, List.length_nil, Nat.zero_add, Nat.reduceAdd] at st
  have st := st.drop 2 rfl
  try simp only [List.nil_append, List.cons_append, List.set_cons_zero, List.set_cons_succ, List.eraseIdx_cons_zero, List.eraseIdx_cons_succ, List.length_cons, List.length_nil, Nat.zero_add, Nat.reduceAdd] at st
  refine st.nw fun b11 h11 st => ?_
  have st := st.asSl 3 i64.enc [1, 2] rfl rfl
  try simp only [List.nil_append, List.cons_append, List.set_cons_zero, List.set_cons_succ, List.eraseIdx_cons_zero, List.eraseIdx_cons_succ, List.length_cons, List.length_nil, Nat.zero_add, Nat.reduceAdd] at st
  refine st.nw fun b12 h12 st => ?_
  have st := st.asSl 4 i64.enc [-1, 3] rfl rfl
  try simp only [List.nil_append, List.cons_append, List.set_cons_zero, List.set_cons_succ, List.eraseIdx_cons_zero, List.eraseIdx_cons_succ, List.length_cons, List.length_nil, Nat.zero_add, Nat.reduceAdd] at st
  refine call_of (resolve_c (st.own 3 rfl).rsl (st.own 4 rfl).rsl 2) ?_
  rintro _ h13 ⟨s13, rfl, n13, x13⟩
  have st := st.new x13 n13
  try simp only [List.nil_append, List.cons_append, List.set_cons_zero, List.set_cons_succ, List.eraseIdx_cons_zero, List.eraseIdx_cons_succ, List.length_cons, List.length_nil, Nat.zero_add, Nat.reduceAdd] at st
  rw [e4] at st
  have st := st.drop 5 rfl
  try simp only [List.nil_append, List.cons_append, List.set_cons_zero, List.set_cons_succ, List.eraseIdx_cons_zero, List.eraseIdx_cons_succ, List.length_cons, List.length_nil, Nat.zero_add, Nat.reduceAdd] at st
  have st := st.drop 4 rfl
  try simp only [List.nil_append, List.cons_append, List.set_cons_zero, List.set_cons_succ, List.eraseIdx_cons_zero, List.eraseIdx_cons_succ, List.length_cons, List.length_nil, Nat.zero_add, Nat.reduceAdd] at st
  have st := st.drop 3 rfl
  try simp only [List.nil_append, List.cons_append, List.set_cons_zero, List.set_cons_succ, List.eraseIdx_cons_zero, List.eraseIdx_cons_succ, List.length_cons, List.length_nil, Nat.zero_add, Nat.reduceAdd] at st
  refine st.nw fun b17 h17 st => ?_
  have st := st.asSl 3 i64.enc [1, 2] rfl rfl
  try simp only [List.nil_append, List.cons_append, List.set_cons_zero, List.set_cons_succ, List.eraseIdx_cons_zero, List.eraseIdx_cons_succ, List.length_cons, List.length_nil, Nat.zero_add, Nat.reduceAdd] at st
  refine st.nw fun b18 h18 st => ?_
  have st := st.asSl 4 i64.enc [-1, -2] rfl rfl
  try simp only [List.nil_append, List.cons_append, List.set_cons_zero, List.set_cons_succ, List.eraseIdx_cons_zero, List.eraseIdx_cons_succ, List.length_cons, List.length_nil, Nat.zero_add, Nat.reduceAdd] at st
  refine call_of (resolve_c (st.own 3 rfl).rsl (st.own 4 rfl).rsl 1) ?_
  rintro _ h19 ⟨s19, rfl, n19, x19⟩
  have st := st.new x19 n19
  try simp only [List.nil_append, List.cons_append, List.set_cons_zero, List.set_cons_succ, List.eraseIdx_cons_zero, List.eraseIdx_cons_succ, List.length_cons, List.length_nil, Nat.zero_add, Nat.reduceAdd] at st
  rw [e5] at st
  have st := st.drop 4 rfl
  try simp only [List.nil_append, List.cons_append, List.set_cons_zero, List.set_cons_succ, List.eraseIdx_cons_zero, List.eraseIdx_cons_succ, List.length_cons, List.length_nil, Nat.zero_add, Nat.reduceAdd] at st
  have st := st.drop 3 rfl
  try simp only [List.nil_append, List.cons_append, List.set_cons_zero, List.set_cons_succ, List.eraseIdx_cons_zero, List.eraseIdx_cons_succ, List.length_cons, List.length_nil, Nat.zero_add, Nat.reduceAdd] at st
  refine st.nw fun b22 h22 st => ?_
  have st := st.asSl 4 i64.enc [1, 2] rfl rfl
  try simp only [List.nil_append, List.cons_append, List.set_cons_zero, List.set_cons_succ, List.eraseIdx_cons_zero, List.eraseIdx_cons_succ, List.length_cons, List.length_nil, Nat.zero_add, Nat.reduceAdd] at st
  refine st.nw fun b23 h23 st => ?_
  have st := st.asSl 5 i64.enc [-1, -2] rfl rfl
  try simp only [List.nil_append, List.cons_append, List.set_cons_zero, List.set_cons_succ, List.eraseIdx_cons_zero, List.eraseIdx_cons_succ, List.length_cons, List.length_nil, Nat.zero_add, Nat.reduceAdd] at st
  refine call_of (clashes_c (st.own 4 rfl).rsl (st.own 5 rfl).rsl) ?_
  rintro _ h24 ⟨s24, rfl, n24, x24⟩
  have st := st.new x24 n24
  try simp only [List.nil_append, List.cons_append, List.set_cons_zero, List.set_cons_succ, List.eraseIdx_cons_zero, List.eraseIdx_cons_succ, List.length_cons, List.length_nil, Nat.zero_add, Nat.reduceAdd] at st
  rw [e6] at st
  have st := st.drop 5 rfl
  try simp only [List.nil_append, List.cons_append, List.set_cons_zero, List.set_cons_succ, List.eraseIdx_cons_zero, List.eraseIdx_cons_succ, List.length_cons, List.length_nil, Nat.zero_add, Nat.reduceAdd] at st
  have st := st.drop 4 rfl
  try simp only [List.nil_append, List.cons_append, List.set_cons_zero, List.set_cons_succ, List.eraseIdx_cons_zero, List.eraseIdx_cons_succ, List.length_cons, List.length_nil, Nat.zero_add, Nat.reduceAdd] at st
  rw [e1, e2, e3, e4, e5, e6]
  (change brB true _ _ _; rw [brB_true])
  refine st.nw fun b28 h28 st => ?_
  have st := st.asSl 5 i64.enc [-1, 3] rfl rfl
  try simp only [List.nil_append, List.cons_append, List.set_cons_zero, List.set_cons_succ, List.eraseIdx_cons_zero, List.eraseIdx_cons_succ, List.length_cons, List.length_nil, Nat.zero_add, Nat.reduceAdd] at st
  refine call_of (equal_clause (c := [-1, 3]) (st.own 0 rfl).rsl (st.own 5 rfl).rsl (by simp)) ?_
  rintro _ _ ⟨rfl, rfl⟩
  (change brB true _ _ _; rw [brB_true])
  have st := st.drop 5 rfl
  try simp only [List.nil_append, List.cons_append, List.set_cons_zero, List.set_cons_succ, List.eraseIdx_cons_zero, List.eraseIdx_cons_succ, List.length_cons, List.length_nil, Nat.zero_add, Nat.reduceAdd] at st
  (change brB true _ _ _; rw [brB_true])
  refine st.nw fun b32 h32 st => ?_
  have st := st.asSl 5 i64.enc [2, -2] rfl rfl
  try simp only [List.nil_append, List.cons_append, List.set_cons_zero, List.set_cons_succ, List.eraseIdx_cons_zero, List.eraseIdx_cons_succ, List.length_cons, List.length_nil, Nat.zero_add, Nat.reduceAdd] at st
  refine call_of (equal_clause (c := [2, -2]) (st.own 1 rfl).rsl (st.own 5 rfl).rsl (by simp)) ?_
  rintro _ _ ⟨rfl, rfl⟩
  (change brB true _ _ _; rw [brB_true])
  have st := st.drop 5 rfl
  try simp only [List.nil_append, List.cons_append, List.set_cons_zero, List.set_cons_succ, List.eraseIdx_cons_zero, List.eraseIdx_cons_succ, List.length_cons, List.length_nil, Nat.zero_add, Nat.reduceAdd] at st
  (change brB true _ _ _; rw [brB_true])
  refine st.nw fun b36 h36 st => ?_
  have st := st.asSl 5 i64.enc [2, 3] rfl rfl
  try simp only [List.nil_append, List.cons_append, List.set_cons_zero, List.set_cons_succ, List.eraseIdx_cons_zero, List.eraseIdx_cons_succ, List.length_cons, List.length_nil, Nat.zero_add, Nat.reduceAdd] at st
  refine call_of (equal_clause (c := [2, 3]) (st.own 2 rfl).rsl (st.own 5 rfl).rsl (by simp)) ?_
  rintro _ _ ⟨rfl, rfl⟩
  (change brB true _ _ _; rw [brB_true])
  have st := st.drop 5 rfl
  try simp only [List.nil_append, List.cons_append, List.set_cons_zero, List.set_cons_succ, List.eraseIdx_cons_zero, List.eraseIdx_cons_succ, List.length_cons, List.length_nil, Nat.zero_add, Nat.reduceAdd] at st
  (change brB true _ _ _; rw [brB_true])
  refine st.nw fun b40 h40 st => ?_
  have st := st.asSl 5 i64.enc [2, -2] rfl rfl
  try simp only [List.nil_append, List.cons_append, List.set_cons_zero, List.set_cons_succ, List.eraseIdx_cons_zero, List.eraseIdx_cons_succ, List.length_cons, List.length_nil, Nat.zero_add, Nat.reduceAdd] at st
  refine call_of (equal_clause (c := [2, -2]) (st.own 3 rfl).rsl (st.own 5 rfl).rsl (by simp)) ?_
  rintro _ _ ⟨rfl, rfl⟩
  (change brB true _ _ _; rw [brB_true])
  have st := st.drop 5 rfl
  try simp only [List.nil_append, List.cons_append, List.set_cons_zero, List.set_cons_succ, List.eraseIdx_cons_zero, List.eraseIdx_cons_succ, List.length_cons, List.length_nil, Nat.zero_add, Nat.reduceAdd] at st
  refine st.nw fun b43 h43 st => ?_
  have st := st.asSl 5 i64.enc [1, 2] rfl rfl
  try simp only [List.nil_append, List.cons_append, List.set_cons_zero, List.set_cons_succ, List.eraseIdx_cons_zero, List.eraseIdx_cons_succ, List.length_cons, List.length_nil, Nat.zero_add, Nat.reduceAdd] at st
  refine call_of (equal_lit (c := [1, 2]) (st.own 4 rfl).rsl (st.own 5 rfl).rsl (by simp)) ?_
  rintro _ _ ⟨rfl, rfl⟩
  (change brB true _ _ _; rw [brB_true])
  have st := st.drop 5 rfl
  try simp only [List.nil_append, List.cons_append, List.set_cons_zero, List.set_cons_succ, List.eraseIdx_cons_zero, List.eraseIdx_cons_succ, List.length_cons, List.length_nil, Nat.zero_add, Nat.reduceAdd] at st
  have st := st.drop 0 rfl
  try simp only [List.nil_append, List.cons_append, List.set_cons_zero, List.set_cons_succ, List.eraseIdx_cons_zero, List.eraseIdx_cons_succ, List.length_cons, List.length_nil, Nat.zero_add, Nat.reduceAdd] at st
  have st := st.drop 0 rfl
  try simp only [List.nil_append, List.cons_append, List.set_cons_zero, List.set_cons_succ, List.eraseIdx_cons_zero, List.eraseIdx_cons_succ, List.length_cons, List.length_nil, Nat.zero_add, Nat.reduceAdd] at st
  have st := st.drop 0 rfl
  try simp only [List.nil_append, List.cons_append, List.set_cons_zero, List.set_cons_succ, List.eraseIdx_cons_zero, List.eraseIdx_cons_succ, List.length_cons, List.length_nil, Nat.zero_add, Nat.reduceAdd] at st
  have st := st.drop 0 rfl
  try simp only [List.nil_append, List.cons_append, List.set_cons_zero, List.set_cons_succ, List.eraseIdx_cons_zero, List.eraseIdx_cons_succ, List.length_cons, List.length_nil, Nat.zero_add, Nat.reduceAdd] at st
  have st := st.drop 0 rfl
  try simp only [List.nil_append, List.cons_append, List.set_cons_zero, List.set_cons_succ, List.eraseIdx_cons_zero, List.eraseIdx_cons_succ, List.length_cons, List.length_nil, Nat.zero_add, Nat.reduceAdd] at st
  refine st.nw fun b51 h51 st => ?_
  have st := st.asSl 0 i64.enc [1] rfl rfl
  try simp only [List.nil_append, List.cons_append, List.set_cons_zero, List.set_cons_succ, List.eraseIdx_cons_zero, List.eraseIdx_cons_succ, List.length_cons, List.length_nil, Nat.zero_add, Nat.reduceAdd] at st
  refine st.nw fun b52 h52 st => ?_
  have st := st.asSl 1 i64.enc [2, 1] rfl rfl
  try simp only [List.nil_append, List.cons_append, List.set_cons_zero, List.set_cons_succ, List.eraseIdx_cons_zero, List.eraseIdx_cons_succ, List.length_cons, List.length_nil, Nat.zero_add, Nat.reduceAdd] at st
  refine call_of (within_c (st.own 0 rfl).rsl (st.own 1 rfl).rsl) ?_
  rintro _ h53 ⟨rfl, x53⟩
  have st := st.ext x53
  (change brB true _ _ _; rw [brB_true])
  refine st.nw fun b54 h54 st => ?_
  have st := st.asSl 2 i64.enc [5] rfl rfl
  try simp only [List.nil_append, List.cons_append, List.set_cons_zero, List.set_cons_succ, List.eraseIdx_cons_zero, List.eraseIdx_cons_succ, List.length_cons, List.length_nil, Nat.zero_add, Nat.reduceAdd] at st
  refine st.nw fun b55 h55 st => ?_
  have st := st.asSl 3 i64.enc [1, 2] rfl rfl
  try simp only [List.nil_append, List.cons_append, List.set_cons_zero, List.set_cons_succ, List.eraseIdx_cons_zero, List.eraseIdx_cons_succ, List.length_cons, List.length_nil, Nat.zero_add, Nat.reduceAdd] at st
  refine call_of (compare_c (st.own 2 rfl).rsl (st.own 3 rfl).rsl) ?_
  rintro _ h56 ⟨rfl, x56⟩
  have st := st.ext x56
  rw [e7]
  (change brB true _ _ _; rw [brB_true])
  refine st.nw fun b57 h57 st => ?_
  have st := st.asSl 4 i64.enc [1, -2] rfl rfl
  try simp only [List.nil_append, List.cons_append, List.set_cons_zero, List.set_cons_succ, List.eraseIdx_cons_zero, List.eraseIdx_cons_succ, List.length_cons, List.length_nil, Nat.zero_add, Nat.reduceAdd] at st
  refine st.nw fun b58 h58 st => ?_
  have st := st.asSl 5 i64.enc [3, -2] rfl rfl
  try simp only [List.nil_append, List.cons_append, List.set_cons_zero, List.set_cons_succ, List.eraseIdx_cons_zero, List.eraseIdx_cons_succ, List.length_cons, List.length_nil, Nat.zero_add, Nat.reduceAdd] at st
  refine call_of (holds_c (st.own 4 rfl).rsl (st.own 5 rfl).rsl (by simp)) ?_
  rintro _ h59 ⟨rfl, x59⟩
  have st := st.ext x59
  (change brB true _ _ _; rw [brB_true])
  refine st.nw fun b60 h60 st => ?_
  have st := st.asSl 6 i64.enc [3, -2] rfl rfl
  try simp only [List.nil_append, List.cons_append, List.set_cons_zero, List.set_cons_succ, List.eraseIdx_cons_zero, List.eraseIdx_cons_succ, List.length_cons, List.length_nil, Nat.zero_add, Nat.reduceAdd] at st
  have st := st.nil ty_lits_Lit i64.enc none
  try simp only [List.nil_append, List.cons_append, List.set_cons_zero, List.set_cons_succ, List.eraseIdx_cons_zero, List.eraseIdx_cons_succ, List.length_cons, List.length_nil, Nat.zero_add, Nat.reduceAdd] at st
  refine call_of (holds_c (s := ⟨none, 0, 0⟩) (st.own 7 rfl).rsl (st.own 6 rfl).rsl (by simp)) ?_
  rintro _ h61 ⟨rfl, x61⟩
  have st := st.ext x61
  exact hK _ _ ⟨rfl, st.frame (by simp)⟩

/-! ### Made, Model -/

def litOf (n : Int) : Int := if n % 2 = 1 then -(1 + n / 2 % 8) else 1 + n / 2 % 8
def madeP (l : List Int) : List Int := (l.take 20).map litOf
def U8 (l : List Int) : Prop := ∀ n ∈ l, 0 ≤ n ∧ n ≤ 255
abbrev lu (l : List Int) (s : Sl) : Asn := rsl (Ty.int .u8).enc l s

theorem wrap_u8 {x : Int} (h0 : 0 ≤ x) (h1 : x ≤ 255) : IntKind.wrap .u8 x = x := by
  have e : IntKind.wrap .u8 x = x % 256 := by simp [IntKind.wrap, IntKind.bits, IntKind.signed]
  rw [e]; omega

theorem made_step {x : Int} (h0 : 0 ≤ x) (h1 : x ≤ 255) : IntKind.wrap .i64 (IntKind.wrap .u8 ((1 : Int) + (Int.tmod (IntKind.wrap .u8 (Int.tdiv x (2 : Int))) (8 : Int)))) = 1 + x / 2 % 8 := by
  rw [Int.tdiv_eq_ediv_of_nonneg h0, wrap_u8 (x := x / 2) (by omega) (by omega), Int.tmod_eq_emod_of_nonneg (by omega), wrap_u8 (x := 1 + x / 2 % 8) (by omega) (by omega), wrap_i64 (by omega) (by omega)]

theorem made_c (hA : At h (lu c s)) (hu : U8 c) : callT Try.prog fn_salvorlaw02_Made #[.slice s.a s.len s.cap] .sl (fun s' h' => New h.size h' (lo (madeP c) s') ∧ Ext [] h h') h := by
  refine callT_gen fun K hK => S_salvorlaw02_Made (a0 := s) K ?_
  unfold F_salvorlaw02_Made
  have l1 := rsl_len hA
  have l2 := rsl_cap hA
  have em : (if (20 : Int) < (s.len : Int) then (20 : Int) else (s.len : Int)) = ((min c.length 20 : Nat) : Int) := by split <;> omega
  rw [em]
  refine ⟨Int.natCast_nonneg _, Int.ofNat_le.2 (show min c.length 20 ≤ s.cap by omega), ?_⟩
  rw [Int.toNat_natCast]
  have hS : At h (lu (c.take 20) (slR ⟨s.a, s.len, s.cap⟩ 0 (min c.length 20) 1)) := by
    have := rsl_sub hA (l := 0) (m := min c.length 20) (by omega) (by omega)
    have e : List.take (min c.length 20) c = c.take 20 := by
      rcases Nat.le_total c.length 20 with k | k
      · rw [Nat.min_eq_left k, List.take_length, List.take_of_length_le k]
      · rw [Nat.min_eq_right k]
    rw [e] at this; exact this
  generalize slR ⟨s.a, s.len, s.cap⟩ 0 (min c.length 20) 1 = s0 at hS
  have l3 := rsl_len hS
  unfold madeP at hK
  have hu2 : U8 (c.take 20) := fun n hn => hu n (List.mem_of_mem_take hn)
  have hl2 : (c.take 20).length ≤ 20 := by simp; omega
  generalize c.take 20 = d at *
  have st := (Hs.start h [] (by simp)).nil ty_lits_Lit i64.enc none
  refine lfp_invh (I := fun m σ h' => ∃ (i : Nat) (s' : Sl), σ = ((i : Int), s', ()) ∧ i ≤ d.length ∧ Hs [([], h)] [] [lo ((d.take i).map litOf) s'] h' ∧ m = d.length - i) ⟨_, 0, ⟨none, 0, 0⟩, rfl, by omega, st, rfl⟩ ?_
  clear st
  rintro m σ h2 X ⟨i, s', rfl, hi, st, em⟩ hX
  have hA1 := hS.ext (st.frame (by simp))
  simp only
  by_cases hlt : i < d.length
  · rw [show decide ((i : Int) < (s0.len : Int)) = true by rw [l3]; exact dlt_t hlt, brB_true, inc_i (show i < 4611686018427387904 by omega)]
    refine rdE (τ := .int .u8) hA1 hlt ?_
    obtain ⟨hx0, hx1⟩ := hu2 _ (List.getElem_mem hlt)
    refine ⟨by decide, by decide, by decide, jn_in fun J hJ => ?_⟩
    rw [made_step hx0 hx1, Int.tmod_eq_emod_of_nonneg hx0, wrap_i64 (x := 0 - (1 + d[i] / 2 % 8)) (by omega) (by omega)]
    have fin : J (litOf d[i], ()) h2 := by
      refine hJ _ _ ?_
      refine st.nw fun b9 h3 st => ?_
      refine st.apd (enc := i64.enc) (v := litOf d[i]) 0 1 rfl rfl (by decide) rfl (by simp; omega) (by decide) rfl fun s7 h4 st => ?_
      refine hX _ _ _ ⟨i + 1, s7, rfl, by omega, ?_, rfl⟩ (by omega)
      have st := st.drop 1 rfl
      rw [take_succ_getE hlt, List.map_append]; exact st
    unfold litOf at fin
    by_cases h2 : d[i] % 2 = 1
    · rw [show (d[i] % 2 == 1) = true by simp [h2], brB_true]
      rw [if_pos h2, ← Int.zero_sub] at fin; exact fin
    · rw [show (d[i] % 2 == 1) = false by simp [h2], brB_false]
      rw [if_neg h2] at fin; exact fin
  · rw [show decide ((i : Int) < (s0.len : Int)) = false by rw [l3]; exact dlt_f hlt, brB_false]
    rw [List.take_of_length_le (by omega)] at st
    exact hK _ _ ⟨st.res (by simp) 0 rfl, st.frame (by simp)⟩

def mlit (b v : Nat) : Int := if b / 2 ^ v % 2 = 1 then -((v : Int) + 1) else (v : Int) + 1
def modelP (b : Nat) : List Int := (List.range 8).map (mlit b)

theorem band_bit (b v : Nat) (hb : b < 256) (hv : v < 8) : (bAnd .u8 (Int.fdiv (b : Int) (2 ^ (min (v : Int).toNat 8))) 1 == 1) = decide (b / 2 ^ v % 2 = 1) := by
  have e1 : Int.fdiv (b : Int) (2 ^ (min (v : Int).toNat 8)) = ((b / 2 ^ v : Nat) : Int) := by
    rw [Int.toNat_natCast, Nat.min_eq_left (by omega), Int.fdiv_eq_ediv_of_nonneg _ (by exact Int.le_of_lt (Int.pow_pos (by decide)))]
    simp
  have hlt : b / 2 ^ v < 256 := Nat.lt_of_le_of_lt (Nat.div_le_self _ _) hb
  rw [e1]
  generalize b / 2 ^ v = x at hlt
  have e2 : bAnd .u8 (x : Int) 1 = ((x % 2 : Nat) : Int) := by
    unfold bAnd
    have e3 : (BitVec.ofInt 8 (x : Int) &&& BitVec.ofInt 8 1).toNat = x % 2 := by
      rw [BitVec.toNat_and]
      have e4 : (BitVec.ofInt 8 (x : Int)).toNat = x := by simp [BitVec.toNat_ofInt]; omega
      rw [e4, show (BitVec.ofInt 8 1).toNat = 1 from rfl, Nat.and_one_is_mod]
    show IntKind.wrap .u8 (((BitVec.ofInt 8 (x : Int) &&& BitVec.ofInt 8 1).toNat : Nat) : Int) = _
    rw [e3, wrap_u8 (by omega) (by omega)]
  rw [e2]
  rcases Nat.mod_two_eq_zero_or_one x with k | k <;> rw [k] <;> rfl

theorem model_c {b : Nat} (hb : b < 256) : callT Try.prog fn_salvorlaw02_Model #[.int .u8 b] .sl (fun s' h' => New h.size h' (lo (modelP b) s') ∧ Ext [] h h') h := by
  refine callT_gen fun K hK => S_salvorlaw02_Model (a0 := b) K ?_
  unfold F_salvorlaw02_Model
  have st := (Hs.start h [] (by simp)).nil ty_lits_Lit i64.enc none
  refine lfp_invh (I := fun m σ h' => ∃ (i : Nat) (s' : Sl), σ = ((i : Int), s', ()) ∧ i ≤ 8 ∧ Hs [([], h)] [] [lo ((List.range i).map (mlit b)) s'] h' ∧ m = 8 - i) ⟨_, 0, ⟨none, 0, 0⟩, rfl, by omega, st, rfl⟩ ?_
  clear st
  rintro m σ h2 X ⟨i, s', rfl, hi, st, em⟩ hX
  simp only
  by_cases hlt : i < 8
  · rw [show decide ((i : Int) < 8) = true from decide_eq_true (by omega), brB_true, inc_i (show i < 4611686018427387904 by omega)]
    refine ⟨by omega, jn_in fun J hJ => ?_⟩
    rw [band_bit b i hb hlt, wrap_i64 (x := 0 - ((i + 1 : Nat) : Int)) (by omega) (by omega)]
    have fin : J (mlit b i, ()) h2 := by
      refine hJ _ _ ?_
      refine st.nw fun b9 h3 st => ?_
      refine st.apd (enc := i64.enc) (v := mlit b i) 0 1 rfl rfl (by decide) rfl (by simp; omega) (by decide) rfl fun s7 h4 st => ?_
      refine hX _ _ _ ⟨i + 1, s7, rfl, by omega, ?_, rfl⟩ (by omega)
      have st := st.drop 1 rfl
      rw [List.range_succ, List.map_append]; exact st
    unfold mlit at fin
    by_cases h2 : b / 2 ^ i % 2 = 1
    · rw [decide_eq_true h2, brB_true]
      rw [if_pos h2] at fin
      rw [show (0 - ((i + 1 : Nat) : Int)) = -((i : Int) + 1) by omega]; exact fin
    · rw [decide_eq_false h2, brB_false]
      rw [if_neg h2] at fin
      rw [show (((i + 1 : Nat) : Int)) = ((i : Int) + 1) by omega]; exact fin
  · rw [show decide ((i : Int) < 8) = false from decide_eq_false (by omega), brB_false]
    have e : i = 8 := by omega
    subst e
    exact hK _ _ ⟨st.res (by simp) 0 rfl, st.frame (by simp)⟩

end Go.Proofs.S
