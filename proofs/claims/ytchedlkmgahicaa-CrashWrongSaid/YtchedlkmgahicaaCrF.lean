/- The functions of the seat, each as a predicate over its values, printed by a program of ours, and that each is its text's. -/
import Derived.Test.YtchedlkmgahicaaSxH
import Derived.KernelRfl
import Derived.Test.YtchedlkmgahicaaProg
import Derived.Test.YtchedlkmgahicaaCrF0
import Derived.Test.YtchedlkmgahicaaCrF1
import Derived.Test.YtchedlkmgahicaaCrF2
import Derived.Test.YtchedlkmgahicaaCrF3
import Derived.Test.YtchedlkmgahicaaSxT
set_option linter.unusedVariables false
namespace Go.Proofs.S
open Go Go.Sx Go.Proofs

end Go.Proofs.S

set_option linter.unusedVariables false
namespace Go.Sx
open Go

def It {α : Type} (h : Heap) (F : List Nat) (A : List α → List Nat → HP) (G As : List Asn) (pre : List α) (B : List Nat) (h' : Heap) : Prop :=
  A pre B h' ∧ h.size ≤ h'.size ∧ (∀ b ∈ B, b ∉ F) ∧ (∀ b ∈ F, b < h.size) ∧ (∀ b ∈ B, b < h'.size) ∧
    ∃ S, Sep As S h' ∧ (∀ b ∈ S, h.size ≤ b ∧ b ∉ B) ∧ ∀ C ∈ G, ∃ SC, C.P SC h' ∧ ∀ b ∈ SC, b ∈ F

structure Client (P : Program) (τ : Ty) (h : Heap) (Nx : List τ.T → τ.T → Heap → List Nat → Prop) (F : List Nat) (A : List τ.T → List Nat → HP) (D : List Nat → HP) (yl : Value) : Prop where
  stable : ∀ pre B h1 h2 T, A pre B h1 → Ext T h1 h2 → (∀ t ∈ T, t ∉ B ∧ (h.size ≤ t ∨ t ∈ ([] : List Nat))) → A pre B h2
  yields : ∀ pre x B h1 N, Nx pre x h1 N → (∀ b ∈ N, h.size ≤ b ∧ b < h1.size ∧ b ∉ B) → A pre B h1 → CallV P yl (τ.vals x).toArray h1 fun v h2 =>
        ∃ B', FootIn (N ++ B) B' h1 h2 ∧ ExtC (N ++ B) h1 h2 ∧ ((v = .bool true ∧ A (pre ++ [x]) B' h2) ∨ (v = .bool false ∧ D B' h2))
  low : ∀ pre B h1, A pre B h1 → ∀ b ∈ B, b < h1.size

section
variable {P : Program} {τ : Ty} {h : Heap} {Nx : List τ.T → τ.T → Heap → List Nat → Prop} {Nv : List τ.T → τ.T → Prop} {F : List Nat} {A : List τ.T → List Nat → HP} {D : List Nat → HP} {yl : Value} {G As : List Asn} {pre : List τ.T} {B : List Nat} {h' : Heap}

theorem It.open (c : Client P τ h Nx F A D yl) (it : It h F A G As pre B h') : ∃ S, Hs [(S, h')] G As h' ∧ ∀ As2 h2, Hs [(S, h')] G As2 h2 → It h F A G As2 pre B h2 := by
  obtain ⟨hA, hz, hBF, hF, hBl, S, hs, hS, hG⟩ := it
  have hSF : ∀ b ∈ F, b ∉ S := fun b hb hin => by have := hF b hb; have := (hS b hin).1; omega
  refine ⟨S, ⟨S, hs, fun C hC => ?_, fun p hp => ?_⟩, ?_⟩
  · obtain ⟨SC, p, q⟩ := hG C hC
    exact ⟨SC, p, fun b hb hin => hSF b (q b hb) hin⟩
  · simp at hp; subst hp; exact ⟨Ext.refl' _ _, fun b hb => .inl hb⟩
  · rintro As2 h2 ⟨S2, hs2, hz2, hf2⟩
    obtain ⟨x, hS2⟩ := hf2 (S, h') (by simp)
    simp only at x hS2
    have x1 := x.1
    refine ⟨c.stable pre B h' h2 S hA x fun t ht => ⟨(hS t ht).2, .inl (hS t ht).1⟩, by omega, hBF, hF, fun b hb => by have := hBl b hb; omega, S2, hs2, fun b hb => ?_, fun C hC => ?_⟩
    · rcases hS2 b hb with k | k
      · exact hS b k
      · exact ⟨by omega, fun hin => by have := hBl b hin; omega⟩
    · obtain ⟨SC, p, q⟩ := hG C hC
      exact ⟨SC, Asn.ext p x fun b hb hin => hSF b (q b hb) hin, q⟩

theorem It.give (c : Client P τ h Nx F A D yl) (it : It h F A G As pre B h') {x : τ.T} (k : Nat) {C : Asn} (hk : As[k]? = some C) (hx : ∀ N, C.P N h' → Nx pre x h' N) {K : Bool → HP}
    (hT : ∀ B' h2, It h F A G (As.eraseIdx k) (pre ++ [x]) B' h2 → K true h2) (hF : ∀ B' h2, D B' h2 → K false h2) : callF P yl (τ.vals x).toArray .bool K h' := by
  obtain ⟨hA, hz, hBF, hFl, hBl, S, hs, hS, hG⟩ := it
  obtain ⟨N, S2, hm, hd, hC, hr, _⟩ := hs.focus k hk
  have hSN : ∀ b ∈ N, b ∈ S := fun b hb => (hm b).2 (.inl hb)
  have hS2 : ∀ b ∈ S2, b ∈ S := fun b hb => (hm b).2 (.inr hb)
  refine CallV.mono (c.yields pre x B h' N (hx N hC) (fun b hb => ⟨(hS b (hSN b hb)).1, (hs.cel b (hSN b hb)).lt, (hS b (hSN b hb)).2⟩) hA) ?_
  rintro v h2 ⟨B', ⟨f, _⟩, xC, hv⟩
  have hNB : ∀ b ∈ F, b ∉ N ++ B := fun b hb hin => by
    rcases List.mem_append.1 hin with k | k
    · have := hFl b hb; have := (hS b (hSN b k)).1; omega
    · exact hBF b k hb
  have hSB : ∀ b ∈ S2, b ∉ N ++ B := fun b hb hin => by
    rcases List.mem_append.1 hin with k | k
    · exact hd b k hb
    · exact (hS b (hS2 b hb)).2 k
  rcases hv with ⟨rfl, hA'⟩ | ⟨rfl, hD⟩
  · refine ⟨true, rfl, hT B' h2 ⟨hA', by have := xC.1; omega, fun b hb hin => ?_, hFl, c.low _ _ _ hA', S2, hr.keep xC.1 fun b hb => xC.2 b (hr.cel b hb).lt (hSB b hb) (hr.cel b hb), fun b hb => ⟨(hS b (hS2 b hb)).1, fun hin => ?_⟩, fun C hC => ?_⟩⟩
    · rcases f b hb with k | k
      · exact hNB b hin k
      · have := hFl b hin; omega
    · rcases f b hin with k | k
      · exact hSB b hb k
      · have := (hr.cel b hb).lt; omega
    · obtain ⟨SC, p, q⟩ := hG C hC
      exact ⟨SC, C.loc p xC.1 fun b hb => xC.2 b (At.lt p b hb) (hNB b (q b hb)) (C.cel p b hb), q⟩
  · exact ⟨false, rfl, hF B' h2 hD⟩

theorem It.yield (c : Client P τ h (fun pre x _ N => Nv pre x ∧ N = []) F A D yl) (it : It h F A G As pre B h') {x : τ.T} (hx : Nv pre x) {K : Bool → HP}
    (hT : ∀ B' h2, It h F A G As (pre ++ [x]) B' h2 → K true h2) (hF : ∀ B' h2, D B' h2 → K false h2) : callF P yl (τ.vals x).toArray .bool K h' := by
  have it2 : It h F A G (As ++ [emp]) pre B h' := by
    obtain ⟨hA, hz, hBF, hFl, hBl, S, hs, hS, hG⟩ := it
    exact ⟨hA, hz, hBF, hFl, hBl, S ++ [], hs.append ⟨[], [], rfl, by simp, rfl, rfl⟩ (by simp), fun b hb => hS b (by simpa using hb), hG⟩
  refine it2.give c As.length (C := emp) (by simp) (fun N e => ⟨hx, e⟩) (fun B' h2 it => hT B' h2 ?_) hF
  rwa [List.eraseIdx_append_of_length_le (Nat.le_refl _), Nat.sub_self, show ([emp] : List Asn).eraseIdx 0 = [] from rfl, List.append_nil] at it

theorem iter_of {fv : Value} {Fin : List τ.T → Prop} (hG : ∀ C ∈ G, ∃ SC, C.P SC h ∧ ∀ b ∈ SC, b ∈ F) (hF : ∀ b ∈ F, b < h.size)
    (walk : ∀ (A : List τ.T → List Nat → HP) (D : List Nat → HP) (B0 : List Nat) (yl : Value), Client P τ h Nx F A D yl → It h F A G [] [] B0 h →
      ∀ K : Unit → HP, (∀ pre B h2, Fin pre → A pre B h2 → K () h2) → (∀ B h2, D B h2 → K () h2) → callF P fv #[yl] (.tup .nil) K h) :
    IterG P τ fv h Nx Fin F [] := by
  intro A D B0 hB0 sA sD yl _ hy hA
  let A' : List τ.T → List Nat → HP := fun pre B h1 => A pre B h1 ∧ ∀ b ∈ B, b < h1.size
  have key := walk A' (fun B h2 => D B h2) B0 yl ⟨?_, ?_, fun pre B h1 hh => hh.2⟩ ⟨⟨hA, fun b hb => (hB0 b hb).1⟩, Nat.le_refl _, fun b hb => (hB0 b hb).2.1, hF, fun b hb => (hB0 b hb).1, [], rfl, by simp, hG⟩
    (fun _ h2 => ∃ B', (∃ pre, Fin pre ∧ A pre B' h2) ∨ D B' h2) (fun pre B h2 hf hh => ⟨B, .inl ⟨pre, hf, hh.1⟩⟩) (fun B h2 hD => ⟨B, .inr hD⟩)
  · exact CallV.mono key fun v h2 ⟨_, _, r⟩ => r
  · rintro pre B h1 h2 T ⟨ha, hl⟩ x hT
    exact ⟨sA pre B h1 h2 T ha x hT, fun b hb => Nat.lt_of_lt_of_le (hl b hb) x.1⟩
  · rintro pre x B h1 N hx hN ⟨ha, hl⟩
    refine CallV.mono (hy pre x B h1 N hx hN ha) ?_
    rintro v h2 ⟨B', f, xC, hv⟩
    exact ⟨B', f, xC, hv.imp (fun ⟨e, k⟩ => ⟨e, k, fun b hb => (f.2 b hb).elim (fun k => Nat.lt_of_lt_of_le ((List.mem_append.1 k).elim (fun k => (hN b k).2.1) (hl b)) xC.1) id⟩) id⟩

end
end Go.Sx
