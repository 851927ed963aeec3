/-
  RatWrong.
-/
import Derived.Test.YtjkgncibelojnaaGreatRaP
set_option linter.unusedVariables false
set_option linter.unusedSimpArgs false
namespace Go.Proofs.S
open Go Go.Sx Go.Proofs Go.Cl Go.Rp Go.Rt

variable {h : Heap} {c d A f ids : List Int} {l bad : List Ent} {cs : List (List Int)} {gs us vs : List Grp} {s s2 s3 s4 sc sa sb : Sl} {fr : Fr} {G As : List Asn} {id p n a2 : Int} {i k : Nat} {b m : Nat}

theorem cloneE_rat {K : Sl → HP} {ps : List tPr.T} (st : Hs fr G As h) (hy : At h (rsn 2 tPr.vals ps s)) (hlen : ps.length ≤ 1048576) (hK : ∀ s' h', Hs fr G (As ++ [osn ty_rat_Entry 2 tPr.vals ps s']) h' → K s' h') :
    callT Tryz.prog fn_slices_Clone_rat_Entry_rat_Entry #[.slice s.a s.len s.cap] .sl K h :=
  S_slices_Clone_rat_Entry_rat_Entry (a0 := s) K (Hs.cloneN (t := ty_rat_Entry) (by_ := 32) (z := #[.int .i64 0, .slice none 0 0]) st widePr (by decide) hy (fun x u hu => by
    have hu : u ∈ [Value.int .i64 x.1, .slice x.2.1.a x.2.1.len x.2.1.cap] := hu
    simp only [List.mem_cons, List.not_mem_nil, or_false] at hu
    rcases hu with rfl | rfl <;> rfl) (by omega) (by decide) rfl hK)
theorem leafPr (x : tPr.T) : ∀ u ∈ tPr.vals x, leafB u = true := fun u hu => by
  have hu : u ∈ [Value.int .i64 x.1, .slice x.2.1.a x.2.1.len x.2.1.cap] := hu
  simp only [List.mem_cons, List.not_mem_nil, or_false] at hu
  rcases hu with rfl | rfl <;> rfl

end Go.Proofs.S
