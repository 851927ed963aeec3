/-
  CrashParts, walked.
-/
import Derived.Test.YtchedlkmgahicaaCrW2
set_option linter.unusedVariables false
set_option linter.unusedSimpArgs false
namespace Go.Proofs.S
open Go Go.Sx Go.Proofs Go.Cr Go.Cl

variable {h : Heap} {l a b : List Ent} {k k2 : List Bool} {m m2 : List Int} {s s2 s3 : Sl} {fr : Fr} {G As : List Asn}

theorem Hs.clone_ent {K : Sl → HP} (st : Hs fr G As h) (hy : At h (le l s)) (hlen : l.length ≤ 1048576) (hK : ∀ s' h', Hs fr G (As ++ [oe l s']) h' → K s' h') :
    callT Try.prog fn_slices_Clone_disk_Entry_disk_Entry #[.slice s.a s.len s.cap] .sl K h :=
  S_slices_Clone_disk_Entry_disk_Entry (a0 := s) K (st.cloneN (by_ := 24) (t := ty_disk_Entry) wideE (by decide) hy (fun x u hu => by
    simp only [Ty.vals, Ty.ev, List.mem_cons, List.not_mem_nil, or_false] at hu
    rcases hu with rfl | rfl | rfl <;> rfl) (by omega) (by decide) rfl hK)

theorem leafE (x : Ent) : ∀ u ∈ tE.vals x, leafB u = true := fun u hu => by
  simp only [Ty.vals, Ty.ev, List.mem_cons, List.not_mem_nil, or_false] at hu
  rcases hu with rfl | rfl | rfl <;> rfl

end Go.Proofs.S
