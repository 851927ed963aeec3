/-
  Slices of slices of one's own, sorted by what stands behind them, and compacted. Nothing here names a program.
-/
import Derived.Test.YtfadkgkkbbcekaaSxCk
import Derived.Test.YtfadkgkkbbcekaaSxSort
import Derived.Test.YtfadkgkkbbcekaaFoA
import Derived.Test.YtfadkgkkbbcekaaCrQ
set_option linter.unusedVariables false
namespace Go.Sx
open Go Go.Sort

theorem Sep.mem : ∀ {As : List Asn} {S : List Nat} {h : Heap} {B : Asn}, Sep As S h → B ∈ As → ∃ SB, B.P SB h ∧ ∀ b ∈ SB, b ∈ S
  | [], _, _, _, _, hB => by cases hB
  | A :: As, S, h, B, ⟨S1, S2, e, hd, hA, hs⟩, hB => by
    subst e
    rcases List.mem_cons.1 hB with rfl | hB
    · exact ⟨S1, hA, fun b hb => List.mem_append_left _ hb⟩
    · obtain ⟨SB, p, q⟩ := Sep.mem hs hB
      exact ⟨SB, p, fun b hb => List.mem_append_right _ (q b hb)⟩

section
variable {fr : Fr} {G As : List Asn} {h h' : Heap} {A B A' : Asn}

theorem inner_mono {β : Type} {I J : β → Sl → Asn} (hIJ : ∀ c p S h, (I c p).P S h → (J c p).P S h) : ∀ {xs : List β} {ps : List Sl} {S : List Nat} {h : Heap}, Inner I xs ps S h → Inner J xs ps S h
  | [], [], _, _, e => e
  | x :: xs, p :: ps, S, h, ⟨S1, S2, e, hp, hi⟩ => ⟨S1, S2, e, hIJ _ _ _ _ hp, inner_mono hIJ hi⟩
  | [], _ :: _, _, _, e => e.elim
  | _ :: _, [], _, _, e => e.elim
theorem rsg_imp {β : Type} {I J : β → Sl → Asn} (hIJ : ∀ c p S h, (I c p).P S h → (J c p).P S h) {xs : List β} {s : Sl} {S : List Nat} {h : Heap} (hA : (rsg I xs s).P S h) : (rsg J xs s).P S h := by
  obtain ⟨ps, S1, S2, e, hp, hi⟩ := hA
  exact ⟨ps, S1, S2, e, hp, inner_mono hIJ hi⟩
theorem rsgA_mono {β : Type} {I J : β → Sl → Asn} (hIJ : ∀ c p S h, (I c p).P S h → (J c p).P S h) {xs : List β} {s : Sl} {h : Heap} (hA : At h (rsg I xs s)) : At h (rsg J xs s) :=
  let ⟨S, p⟩ := hA; ⟨S, rsg_imp hIJ p⟩

structure SortedG {β : Type} (M : β → Prop) (c : β → β → Int) (xs : List β) (ps ys : List Sl) (val : Sl → β) : Prop where
  perm : ys.Perm ps
  vals : ps.map val = xs
  mem : ∀ p, M (val p)
  pair : ys.Pairwise (fun a b => decide (c (val b) (val a) < 0) = false)

theorem Inner.at {β : Type} {I : β → Sl → Asn} {xs : List β} {ps : List Sl} (hA : At h (inn I xs ps)) : ps.length = xs.length ∧ ∀ i (h1 : i < xs.length) (h2 : i < ps.length), At h (I xs[i] ps[i]) :=
  let ⟨S, p⟩ := hA; ⟨Inner.len p, fun i h1 h2 => Inner.get p i h1 h2⟩

section
variable {P : Program} {f : SF} {t : TypeId} {cmp : Value} {β : Type} {I : β → Sl → Asn} {M : β → Prop} {c : β → β → Int} {xs : List β} {s : Sl}

end
end
end Go.Sx

set_option linter.unusedVariables false
set_option linter.unusedSimpArgs false
namespace Go.Proofs.S
open Go Go.Sx Go.Proofs Go.Cl

variable {h : Heap} {c d : List Int} {s s2 : Sl} {fr : Fr} {G As : List Asn} {m : List Bool} {sm : Sl}

abbrev ob (m : List Bool) (s : Sl) : Asn := osl ty_bool Ty.bool.enc m s
def modelsF (v : Nat) (cs : List (List Int)) : List (List Bool) := (Cr.allB v).filter fun m => decide (failsGo m 0 cs < 0)
abbrev cF (b : Nat) (n : Int) (s : Sl) : Asn := cl b ty_formula_Formula [.int .i64 n, .slice s.a s.len s.cap]
end Go.Proofs.S
