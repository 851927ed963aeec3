/-
  The law's under, in each of its orders of evaluation (printed by gen/mkduo.py).
-/
import Derived.Test.YtfadkgkkbbcekaaDpYs
set_option linter.unusedVariables false
set_option linter.unusedSimpArgs false
namespace Go.Proofs.S
open Go Go.Sx Go.Proofs Go.Cl Go.Dp

variable {h : Heap} {cs : List (List Int)} {s sl : Sl} {l : List Int} {n fu : Int}

set_option maxHeartbeats 2000000 in
theorem lawUnder_c (hA : At h (lli cs s)) (hL : At h (li l sl)) (hl : cs.length ≤ 1048576) (hc : ∀ c ∈ cs, c.length ≤ 1048576) (hll : l.length ≤ 1000000) (hn : (checkP n cs).2 = 0 → n ≤ 60) :
    callT Try.prog fn_salvorlaw19_under #[.agg #[.int .i64 n, .slice s.a s.len s.cap], .slice sl.a sl.len sl.cap, .int .i64 fu] .bool (fun r h' => r = true ∧ Ext [] h h') h := by
  refine callT_gen fun K hK => S_salvorlaw19_under (a0 := (n, s, ())) (a1 := sl) (a2 := fu) K ?_
  unfold F_salvorlaw19_under
  have st := Hs.start h [lli cs s, li l sl] (by simp [hA, hL])
  refine st.nw fun b0 h11 st => ?_
  simp only [List.cons_append, List.nil_append] at st
  refine ldF (st.blk 0 rfl) ?_
  refine ldF (st.blk 0 rfl) ?_
  refine ⟨?_, ?_⟩
  · refine call_of (copy_c (n := n) (st.fz 0 rfl) hl hc) ?_
    rintro _ h12 ⟨r3, rfl, n1, x1⟩
    have st := st.new x1 n1
    simp only [List.cons_append, List.nil_append] at st
    refine ckF (st.blk 0 rfl) ?_
    refine ⟨?_, ?_⟩
    · refine call_of (clause_c (st.fz 1 rfl) (by omega)) ?_
      rintro r4 h13 ⟨n1, x1⟩
      have st := st.new x1 n1
      simp only [List.cons_append, List.nil_append] at st
      refine ckF (st.blk 0 rfl) ?_
      refine ⟨?_, ?_⟩
      · refine call_of (theirs_c (n := n) (st.fz 0 rfl) hl hc) ?_
        rintro _ h14 ⟨r5, rfl, n1, x1⟩
        have st := st.new x1 n1
        simp only [List.cons_append, List.nil_append] at st
        refine ⟨?_, ?_⟩
        · refine st.nw fun b6 h15 st => ?_
          simp only [List.cons_append, List.nil_append] at st
          refine st.nw fun b7 h16 st => ?_
          simp only [List.cons_append, List.nil_append] at st
          simp only [addr_add, Nat.zero_add]
          refine st.st1 4 0 rfl (by simp) fun h17 st => ?_
          refine st.st1 4 1 rfl (by simp) fun h18 st => ?_
          refine st.st1 5 0 rfl (by simp) fun h19 st => ?_
          refine st.st1 5 1 rfl (by simp) fun h20 st => ?_
          simp only [List.set_cons_zero, List.set_cons_succ] at st
          exact UnTl_c (st.blk 4 rfl) (st.blk 5 rfl) (llo_at (st.own 1 rfl)) (oii_at (st.own 3 rfl)) (st.own 2 rfl).rsl (st.fz 1 rfl) hl hc hll hn fun h' x => hK _ _ ⟨rfl, (st.frame (h0 := h) (by simp)).nil_trans x⟩
        · refine st.nw fun b92 h21 st => ?_
          simp only [List.cons_append, List.nil_append] at st
          refine st.nw fun b93 h22 st => ?_
          simp only [List.cons_append, List.nil_append] at st
          simp only [addr_add, Nat.zero_add]
          refine st.st1 5 0 rfl (by simp) fun h23 st => ?_
          refine st.st1 5 1 rfl (by simp) fun h24 st => ?_
          refine st.st1 4 0 rfl (by simp) fun h25 st => ?_
          refine st.st1 4 1 rfl (by simp) fun h26 st => ?_
          simp only [List.set_cons_zero, List.set_cons_succ] at st
          exact UnTl_c (st.blk 5 rfl) (st.blk 4 rfl) (llo_at (st.own 1 rfl)) (oii_at (st.own 3 rfl)) (st.own 2 rfl).rsl (st.fz 1 rfl) hl hc hll hn fun h' x => hK _ _ ⟨rfl, (st.frame (h0 := h) (by simp)).nil_trans x⟩
      · refine ⟨?_, ?_⟩
        · refine st.nw fun b178 h27 st => ?_
          simp only [List.cons_append, List.nil_append] at st
          refine ⟨?_, ?_⟩
          · refine call_of (theirs_c (n := n) (st.fz 0 rfl) hl hc) ?_
            rintro _ h28 ⟨r179, rfl, n1, x1⟩
            have st := st.new x1 n1
            simp only [List.cons_append, List.nil_append] at st
            refine st.nw fun b180 h29 st => ?_
            simp only [List.cons_append, List.nil_append] at st
            simp only [addr_add, Nat.zero_add]
            refine st.st1 3 0 rfl (by simp) fun h30 st => ?_
            refine st.st1 3 1 rfl (by simp) fun h31 st => ?_
            refine st.st1 5 0 rfl (by simp) fun h32 st => ?_
            refine st.st1 5 1 rfl (by simp) fun h33 st => ?_
            simp only [List.set_cons_zero, List.set_cons_succ] at st
            exact UnTl_c (st.blk 3 rfl) (st.blk 5 rfl) (llo_at (st.own 1 rfl)) (oii_at (st.own 4 rfl)) (st.own 2 rfl).rsl (st.fz 1 rfl) hl hc hll hn fun h' x => hK _ _ ⟨rfl, (st.frame (h0 := h) (by simp)).nil_trans x⟩
          · refine st.nw fun b265 h34 st => ?_
            simp only [List.cons_append, List.nil_append] at st
            refine call_of (theirs_c (n := n) (st.fz 0 rfl) hl hc) ?_
            rintro _ h35 ⟨r266, rfl, n1, x1⟩
            have st := st.new x1 n1
            simp only [List.cons_append, List.nil_append] at st
            simp only [addr_add, Nat.zero_add]
            refine st.st1 3 0 rfl (by simp) fun h36 st => ?_
            refine st.st1 3 1 rfl (by simp) fun h37 st => ?_
            refine st.st1 4 0 rfl (by simp) fun h38 st => ?_
            refine st.st1 4 1 rfl (by simp) fun h39 st => ?_
            simp only [List.set_cons_zero, List.set_cons_succ] at st
            exact UnTl_c (st.blk 3 rfl) (st.blk 4 rfl) (llo_at (st.own 1 rfl)) (oii_at (st.own 5 rfl)) (st.own 2 rfl).rsl (st.fz 1 rfl) hl hc hll hn fun h' x => hK _ _ ⟨rfl, (st.frame (h0 := h) (by simp)).nil_trans x⟩
        · refine st.nw fun b351 h40 st => ?_
          simp only [List.cons_append, List.nil_append] at st
          refine ⟨?_, ?_⟩
          · refine call_of (theirs_c (n := n) (st.fz 0 rfl) hl hc) ?_
            rintro _ h41 ⟨r352, rfl, n1, x1⟩
            have st := st.new x1 n1
            simp only [List.cons_append, List.nil_append] at st
            refine st.nw fun b353 h42 st => ?_
            simp only [List.cons_append, List.nil_append] at st
            simp only [addr_add, Nat.zero_add]
            refine st.st1 5 0 rfl (by simp) fun h43 st => ?_
            refine st.st1 5 1 rfl (by simp) fun h44 st => ?_
            refine st.st1 3 0 rfl (by simp) fun h45 st => ?_
            refine st.st1 3 1 rfl (by simp) fun h46 st => ?_
            simp only [List.set_cons_zero, List.set_cons_succ] at st
            exact UnTl_c (st.blk 5 rfl) (st.blk 3 rfl) (llo_at (st.own 1 rfl)) (oii_at (st.own 4 rfl)) (st.own 2 rfl).rsl (st.fz 1 rfl) hl hc hll hn fun h' x => hK _ _ ⟨rfl, (st.frame (h0 := h) (by simp)).nil_trans x⟩
          · refine st.nw fun b438 h47 st => ?_
            simp only [List.cons_append, List.nil_append] at st
            refine call_of (theirs_c (n := n) (st.fz 0 rfl) hl hc) ?_
            rintro _ h48 ⟨r439, rfl, n1, x1⟩
            have st := st.new x1 n1
            simp only [List.cons_append, List.nil_append] at st
            simp only [addr_add, Nat.zero_add]
            refine st.st1 4 0 rfl (by simp) fun h49 st => ?_
            refine st.st1 4 1 rfl (by simp) fun h50 st => ?_
            refine st.st1 3 0 rfl (by simp) fun h51 st => ?_
            refine st.st1 3 1 rfl (by simp) fun h52 st => ?_
            simp only [List.set_cons_zero, List.set_cons_succ] at st
            exact UnTl_c (st.blk 4 rfl) (st.blk 3 rfl) (llo_at (st.own 1 rfl)) (oii_at (st.own 5 rfl)) (st.own 2 rfl).rsl (st.fz 1 rfl) hl hc hll hn fun h' x => hK _ _ ⟨rfl, (st.frame (h0 := h) (by simp)).nil_trans x⟩
    · refine ⟨?_, ?_⟩
      · refine st.nw fun b524 h53 st => ?_
        simp only [List.cons_append, List.nil_append] at st
        refine ⟨?_, ?_⟩
        · refine call_of (clause_c (st.fz 1 rfl) (by omega)) ?_
          rintro r525 h54 ⟨n1, x1⟩
          have st := st.new x1 n1
          simp only [List.cons_append, List.nil_append] at st
          refine ckF (st.blk 0 rfl) ?_
          refine ⟨?_, ?_⟩
          · refine call_of (theirs_c (n := n) (st.fz 0 rfl) hl hc) ?_
            rintro _ h55 ⟨r526, rfl, n1, x1⟩
            have st := st.new x1 n1
            simp only [List.cons_append, List.nil_append] at st
            refine st.nw fun b527 h56 st => ?_
            simp only [List.cons_append, List.nil_append] at st
            simp only [addr_add, Nat.zero_add]
            refine st.st1 2 0 rfl (by simp) fun h57 st => ?_
            refine st.st1 2 1 rfl (by simp) fun h58 st => ?_
            refine st.st1 5 0 rfl (by simp) fun h59 st => ?_
            refine st.st1 5 1 rfl (by simp) fun h60 st => ?_
            simp only [List.set_cons_zero, List.set_cons_succ] at st
            exact UnTl_c (st.blk 2 rfl) (st.blk 5 rfl) (llo_at (st.own 1 rfl)) (oii_at (st.own 4 rfl)) (st.own 3 rfl).rsl (st.fz 1 rfl) hl hc hll hn fun h' x => hK _ _ ⟨rfl, (st.frame (h0 := h) (by simp)).nil_trans x⟩
          · refine st.nw fun b612 h61 st => ?_
            simp only [List.cons_append, List.nil_append] at st
            refine call_of (theirs_c (n := n) (st.fz 0 rfl) hl hc) ?_
            rintro _ h62 ⟨r613, rfl, n1, x1⟩
            have st := st.new x1 n1
            simp only [List.cons_append, List.nil_append] at st
            simp only [addr_add, Nat.zero_add]
            refine st.st1 2 0 rfl (by simp) fun h63 st => ?_
            refine st.st1 2 1 rfl (by simp) fun h64 st => ?_
            refine st.st1 4 0 rfl (by simp) fun h65 st => ?_
            refine st.st1 4 1 rfl (by simp) fun h66 st => ?_
            simp only [List.set_cons_zero, List.set_cons_succ] at st
            exact UnTl_c (st.blk 2 rfl) (st.blk 4 rfl) (llo_at (st.own 1 rfl)) (oii_at (st.own 5 rfl)) (st.own 3 rfl).rsl (st.fz 1 rfl) hl hc hll hn fun h' x => hK _ _ ⟨rfl, (st.frame (h0 := h) (by simp)).nil_trans x⟩
        · refine st.nw fun b698 h67 st => ?_
          simp only [List.cons_append, List.nil_append] at st
          refine call_of (clause_c (st.fz 1 rfl) (by omega)) ?_
          rintro r699 h68 ⟨n1, x1⟩
          have st := st.new x1 n1
          simp only [List.cons_append, List.nil_append] at st
          refine ckF (st.blk 0 rfl) ?_
          refine call_of (theirs_c (n := n) (st.fz 0 rfl) hl hc) ?_
          rintro _ h69 ⟨r700, rfl, n1, x1⟩
          have st := st.new x1 n1
          simp only [List.cons_append, List.nil_append] at st
          simp only [addr_add, Nat.zero_add]
          refine st.st1 2 0 rfl (by simp) fun h70 st => ?_
          refine st.st1 2 1 rfl (by simp) fun h71 st => ?_
          refine st.st1 3 0 rfl (by simp) fun h72 st => ?_
          refine st.st1 3 1 rfl (by simp) fun h73 st => ?_
          simp only [List.set_cons_zero, List.set_cons_succ] at st
          exact UnTl_c (st.blk 2 rfl) (st.blk 3 rfl) (llo_at (st.own 1 rfl)) (oii_at (st.own 5 rfl)) (st.own 4 rfl).rsl (st.fz 1 rfl) hl hc hll hn fun h' x => hK _ _ ⟨rfl, (st.frame (h0 := h) (by simp)).nil_trans x⟩
      · refine st.nw fun b785 h74 st => ?_
        simp only [List.cons_append, List.nil_append] at st
        refine ⟨?_, ?_⟩
        · refine call_of (clause_c (st.fz 1 rfl) (by omega)) ?_
          rintro r786 h75 ⟨n1, x1⟩
          have st := st.new x1 n1
          simp only [List.cons_append, List.nil_append] at st
          refine ckF (st.blk 0 rfl) ?_
          refine ⟨?_, ?_⟩
          · refine call_of (theirs_c (n := n) (st.fz 0 rfl) hl hc) ?_
            rintro _ h76 ⟨r787, rfl, n1, x1⟩
            have st := st.new x1 n1
            simp only [List.cons_append, List.nil_append] at st
            refine st.nw fun b788 h77 st => ?_
            simp only [List.cons_append, List.nil_append] at st
            simp only [addr_add, Nat.zero_add]
            refine st.st1 5 0 rfl (by simp) fun h78 st => ?_
            refine st.st1 5 1 rfl (by simp) fun h79 st => ?_
            refine st.st1 2 0 rfl (by simp) fun h80 st => ?_
            refine st.st1 2 1 rfl (by simp) fun h81 st => ?_
            simp only [List.set_cons_zero, List.set_cons_succ] at st
            exact UnTl_c (st.blk 5 rfl) (st.blk 2 rfl) (llo_at (st.own 1 rfl)) (oii_at (st.own 4 rfl)) (st.own 3 rfl).rsl (st.fz 1 rfl) hl hc hll hn fun h' x => hK _ _ ⟨rfl, (st.frame (h0 := h) (by simp)).nil_trans x⟩
          · refine st.nw fun b873 h82 st => ?_
            simp only [List.cons_append, List.nil_append] at st
            refine call_of (theirs_c (n := n) (st.fz 0 rfl) hl hc) ?_
            rintro _ h83 ⟨r874, rfl, n1, x1⟩
            have st := st.new x1 n1
            simp only [List.cons_append, List.nil_append] at st
            simp only [addr_add, Nat.zero_add]
            refine st.st1 4 0 rfl (by simp) fun h84 st => ?_
            refine st.st1 4 1 rfl (by simp) fun h85 st => ?_
            refine st.st1 2 0 rfl (by simp) fun h86 st => ?_
            refine st.st1 2 1 rfl (by simp) fun h87 st => ?_
            simp only [List.set_cons_zero, List.set_cons_succ] at st
            exact UnTl_c (st.blk 4 rfl) (st.blk 2 rfl) (llo_at (st.own 1 rfl)) (oii_at (st.own 5 rfl)) (st.own 3 rfl).rsl (st.fz 1 rfl) hl hc hll hn fun h' x => hK _ _ ⟨rfl, (st.frame (h0 := h) (by simp)).nil_trans x⟩
        · refine st.nw fun b959 h88 st => ?_
          simp only [List.cons_append, List.nil_append] at st
          refine call_of (clause_c (st.fz 1 rfl) (by omega)) ?_
          rintro r960 h89 ⟨n1, x1⟩
          have st := st.new x1 n1
          simp only [List.cons_append, List.nil_append] at st
          refine ckF (st.blk 0 rfl) ?_
          refine call_of (theirs_c (n := n) (st.fz 0 rfl) hl hc) ?_
          rintro _ h90 ⟨r961, rfl, n1, x1⟩
          have st := st.new x1 n1
          simp only [List.cons_append, List.nil_append] at st
          simp only [addr_add, Nat.zero_add]
          refine st.st1 3 0 rfl (by simp) fun h91 st => ?_
          refine st.st1 3 1 rfl (by simp) fun h92 st => ?_
          refine st.st1 2 0 rfl (by simp) fun h93 st => ?_
          refine st.st1 2 1 rfl (by simp) fun h94 st => ?_
          simp only [List.set_cons_zero, List.set_cons_succ] at st
          exact UnTl_c (st.blk 3 rfl) (st.blk 2 rfl) (llo_at (st.own 1 rfl)) (oii_at (st.own 5 rfl)) (st.own 4 rfl).rsl (st.fz 1 rfl) hl hc hll hn fun h' x => hK _ _ ⟨rfl, (st.frame (h0 := h) (by simp)).nil_trans x⟩
  · refine ⟨?_, ?_⟩
    · refine st.nw fun b1046 h95 st => ?_
      simp only [List.cons_append, List.nil_append] at st
      refine ⟨?_, ?_⟩
      · refine call_of (copy_c (n := n) (st.fz 0 rfl) hl hc) ?_
        rintro _ h96 ⟨r1047, rfl, n1, x1⟩
        have st := st.new x1 n1
        simp only [List.cons_append, List.nil_append] at st
        refine ckF (st.blk 0 rfl) ?_
        refine ⟨?_, ?_⟩
        · refine call_of (clause_c (st.fz 1 rfl) (by omega)) ?_
          rintro r1048 h97 ⟨n1, x1⟩
          have st := st.new x1 n1
          simp only [List.cons_append, List.nil_append] at st
          refine ckF (st.blk 0 rfl) ?_
          refine ⟨?_, ?_⟩
          · refine call_of (theirs_c (n := n) (st.fz 0 rfl) hl hc) ?_
            rintro _ h98 ⟨r1049, rfl, n1, x1⟩
            have st := st.new x1 n1
            simp only [List.cons_append, List.nil_append] at st
            refine st.nw fun b1050 h99 st => ?_
            simp only [List.cons_append, List.nil_append] at st
            simp only [addr_add, Nat.zero_add]
            refine st.st1 1 0 rfl (by simp) fun h100 st => ?_
            refine st.st1 1 1 rfl (by simp) fun h101 st => ?_
            refine st.st1 5 0 rfl (by simp) fun h102 st => ?_
            refine st.st1 5 1 rfl (by simp) fun h103 st => ?_
            simp only [List.set_cons_zero, List.set_cons_succ] at st
            exact UnTl_c (st.blk 1 rfl) (st.blk 5 rfl) (llo_at (st.own 2 rfl)) (oii_at (st.own 4 rfl)) (st.own 3 rfl).rsl (st.fz 1 rfl) hl hc hll hn fun h' x => hK _ _ ⟨rfl, (st.frame (h0 := h) (by simp)).nil_trans x⟩
          · refine st.nw fun b1135 h104 st => ?_
            simp only [List.cons_append, List.nil_append] at st
            refine call_of (theirs_c (n := n) (st.fz 0 rfl) hl hc) ?_
            rintro _ h105 ⟨r1136, rfl, n1, x1⟩
            have st := st.new x1 n1
            simp only [List.cons_append, List.nil_append] at st
            simp only [addr_add, Nat.zero_add]
            refine st.st1 1 0 rfl (by simp) fun h106 st => ?_
            refine st.st1 1 1 rfl (by simp) fun h107 st => ?_
            refine st.st1 4 0 rfl (by simp) fun h108 st => ?_
            refine st.st1 4 1 rfl (by simp) fun h109 st => ?_
            simp only [List.set_cons_zero, List.set_cons_succ] at st
            exact UnTl_c (st.blk 1 rfl) (st.blk 4 rfl) (llo_at (st.own 2 rfl)) (oii_at (st.own 5 rfl)) (st.own 3 rfl).rsl (st.fz 1 rfl) hl hc hll hn fun h' x => hK _ _ ⟨rfl, (st.frame (h0 := h) (by simp)).nil_trans x⟩
        · refine st.nw fun b1221 h110 st => ?_
          simp only [List.cons_append, List.nil_append] at st
          refine call_of (clause_c (st.fz 1 rfl) (by omega)) ?_
          rintro r1222 h111 ⟨n1, x1⟩
          have st := st.new x1 n1
          simp only [List.cons_append, List.nil_append] at st
          refine ckF (st.blk 0 rfl) ?_
          refine call_of (theirs_c (n := n) (st.fz 0 rfl) hl hc) ?_
          rintro _ h112 ⟨r1223, rfl, n1, x1⟩
          have st := st.new x1 n1
          simp only [List.cons_append, List.nil_append] at st
          simp only [addr_add, Nat.zero_add]
          refine st.st1 1 0 rfl (by simp) fun h113 st => ?_
          refine st.st1 1 1 rfl (by simp) fun h114 st => ?_
          refine st.st1 3 0 rfl (by simp) fun h115 st => ?_
          refine st.st1 3 1 rfl (by simp) fun h116 st => ?_
          simp only [List.set_cons_zero, List.set_cons_succ] at st
          exact UnTl_c (st.blk 1 rfl) (st.blk 3 rfl) (llo_at (st.own 2 rfl)) (oii_at (st.own 5 rfl)) (st.own 4 rfl).rsl (st.fz 1 rfl) hl hc hll hn fun h' x => hK _ _ ⟨rfl, (st.frame (h0 := h) (by simp)).nil_trans x⟩
      · refine st.nw fun b1308 h117 st => ?_
        simp only [List.cons_append, List.nil_append] at st
        refine call_of (copy_c (n := n) (st.fz 0 rfl) hl hc) ?_
        rintro _ h118 ⟨r1309, rfl, n1, x1⟩
        have st := st.new x1 n1
        simp only [List.cons_append, List.nil_append] at st
        refine ckF (st.blk 0 rfl) ?_
        refine call_of (clause_c (st.fz 1 rfl) (by omega)) ?_
        rintro r1310 h119 ⟨n1, x1⟩
        have st := st.new x1 n1
        simp only [List.cons_append, List.nil_append] at st
        refine ckF (st.blk 0 rfl) ?_
        refine call_of (theirs_c (n := n) (st.fz 0 rfl) hl hc) ?_
        rintro _ h120 ⟨r1311, rfl, n1, x1⟩
        have st := st.new x1 n1
        simp only [List.cons_append, List.nil_append] at st
        simp only [addr_add, Nat.zero_add]
        refine st.st1 1 0 rfl (by simp) fun h121 st => ?_
        refine st.st1 1 1 rfl (by simp) fun h122 st => ?_
        refine st.st1 2 0 rfl (by simp) fun h123 st => ?_
        refine st.st1 2 1 rfl (by simp) fun h124 st => ?_
        simp only [List.set_cons_zero, List.set_cons_succ] at st
        exact UnTl_c (st.blk 1 rfl) (st.blk 2 rfl) (llo_at (st.own 3 rfl)) (oii_at (st.own 5 rfl)) (st.own 4 rfl).rsl (st.fz 1 rfl) hl hc hll hn fun h' x => hK _ _ ⟨rfl, (st.frame (h0 := h) (by simp)).nil_trans x⟩
    · refine st.nw fun b1396 h125 st => ?_
      simp only [List.cons_append, List.nil_append] at st
      refine ⟨?_, ?_⟩
      · refine call_of (copy_c (n := n) (st.fz 0 rfl) hl hc) ?_
        rintro _ h126 ⟨r1397, rfl, n1, x1⟩
        have st := st.new x1 n1
        simp only [List.cons_append, List.nil_append] at st
        refine ckF (st.blk 0 rfl) ?_
        refine ⟨?_, ?_⟩
        · refine call_of (clause_c (st.fz 1 rfl) (by omega)) ?_
          rintro r1398 h127 ⟨n1, x1⟩
          have st := st.new x1 n1
          simp only [List.cons_append, List.nil_append] at st
          refine ckF (st.blk 0 rfl) ?_
          refine ⟨?_, ?_⟩
          · refine call_of (theirs_c (n := n) (st.fz 0 rfl) hl hc) ?_
            rintro _ h128 ⟨r1399, rfl, n1, x1⟩
            have st := st.new x1 n1
            simp only [List.cons_append, List.nil_append] at st
            refine st.nw fun b1400 h129 st => ?_
            simp only [List.cons_append, List.nil_append] at st
            simp only [addr_add, Nat.zero_add]
            refine st.st1 5 0 rfl (by simp) fun h130 st => ?_
            refine st.st1 5 1 rfl (by simp) fun h131 st => ?_
            refine st.st1 1 0 rfl (by simp) fun h132 st => ?_
            refine st.st1 1 1 rfl (by simp) fun h133 st => ?_
            simp only [List.set_cons_zero, List.set_cons_succ] at st
            exact UnTl_c (st.blk 5 rfl) (st.blk 1 rfl) (llo_at (st.own 2 rfl)) (oii_at (st.own 4 rfl)) (st.own 3 rfl).rsl (st.fz 1 rfl) hl hc hll hn fun h' x => hK _ _ ⟨rfl, (st.frame (h0 := h) (by simp)).nil_trans x⟩
          · refine st.nw fun b1485 h134 st => ?_
            simp only [List.cons_append, List.nil_append] at st
            refine call_of (theirs_c (n := n) (st.fz 0 rfl) hl hc) ?_
            rintro _ h135 ⟨r1486, rfl, n1, x1⟩
            have st := st.new x1 n1
            simp only [List.cons_append, List.nil_append] at st
            simp only [addr_add, Nat.zero_add]
            refine st.st1 4 0 rfl (by simp) fun h136 st => ?_
            refine st.st1 4 1 rfl (by simp) fun h137 st => ?_
            refine st.st1 1 0 rfl (by simp) fun h138 st => ?_
            refine st.st1 1 1 rfl (by simp) fun h139 st => ?_
            simp only [List.set_cons_zero, List.set_cons_succ] at st
            exact UnTl_c (st.blk 4 rfl) (st.blk 1 rfl) (llo_at (st.own 2 rfl)) (oii_at (st.own 5 rfl)) (st.own 3 rfl).rsl (st.fz 1 rfl) hl hc hll hn fun h' x => hK _ _ ⟨rfl, (st.frame (h0 := h) (by simp)).nil_trans x⟩
        · refine st.nw fun b1571 h140 st => ?_
          simp only [List.cons_append, List.nil_append] at st
          refine call_of (clause_c (st.fz 1 rfl) (by omega)) ?_
          rintro r1572 h141 ⟨n1, x1⟩
          have st := st.new x1 n1
          simp only [List.cons_append, List.nil_append] at st
          refine ckF (st.blk 0 rfl) ?_
          refine call_of (theirs_c (n := n) (st.fz 0 rfl) hl hc) ?_
          rintro _ h142 ⟨r1573, rfl, n1, x1⟩
          have st := st.new x1 n1
          simp only [List.cons_append, List.nil_append] at st
          simp only [addr_add, Nat.zero_add]
          refine st.st1 3 0 rfl (by simp) fun h143 st => ?_
          refine st.st1 3 1 rfl (by simp) fun h144 st => ?_
          refine st.st1 1 0 rfl (by simp) fun h145 st => ?_
          refine st.st1 1 1 rfl (by simp) fun h146 st => ?_
          simp only [List.set_cons_zero, List.set_cons_succ] at st
          exact UnTl_c (st.blk 3 rfl) (st.blk 1 rfl) (llo_at (st.own 2 rfl)) (oii_at (st.own 5 rfl)) (st.own 4 rfl).rsl (st.fz 1 rfl) hl hc hll hn fun h' x => hK _ _ ⟨rfl, (st.frame (h0 := h) (by simp)).nil_trans x⟩
      · refine st.nw fun b1658 h147 st => ?_
        simp only [List.cons_append, List.nil_append] at st
        refine call_of (copy_c (n := n) (st.fz 0 rfl) hl hc) ?_
        rintro _ h148 ⟨r1659, rfl, n1, x1⟩
        have st := st.new x1 n1
        simp only [List.cons_append, List.nil_append] at st
        refine ckF (st.blk 0 rfl) ?_
        refine call_of (clause_c (st.fz 1 rfl) (by omega)) ?_
        rintro r1660 h149 ⟨n1, x1⟩
        have st := st.new x1 n1
        simp only [List.cons_append, List.nil_append] at st
        refine ckF (st.blk 0 rfl) ?_
        refine call_of (theirs_c (n := n) (st.fz 0 rfl) hl hc) ?_
        rintro _ h150 ⟨r1661, rfl, n1, x1⟩
        have st := st.new x1 n1
        simp only [List.cons_append, List.nil_append] at st
        simp only [addr_add, Nat.zero_add]
        refine st.st1 2 0 rfl (by simp) fun h151 st => ?_
        refine st.st1 2 1 rfl (by simp) fun h152 st => ?_
        refine st.st1 1 0 rfl (by simp) fun h153 st => ?_
        refine st.st1 1 1 rfl (by simp) fun h154 st => ?_
        simp only [List.set_cons_zero, List.set_cons_succ] at st
        exact UnTl_c (st.blk 2 rfl) (st.blk 1 rfl) (llo_at (st.own 3 rfl)) (oii_at (st.own 5 rfl)) (st.own 4 rfl).rsl (st.fz 1 rfl) hl hc hll hn fun h' x => hK _ _ ⟨rfl, (st.frame (h0 := h) (by simp)).nil_trans x⟩

end Go.Proofs.S
