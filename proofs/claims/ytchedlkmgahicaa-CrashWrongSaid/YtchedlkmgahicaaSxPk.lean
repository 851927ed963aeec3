/-
  Many assertions as one; a function over which one may range, that still owns something when its client has stopped. Nothing here names a program.
-/
import Derived.Test.YtchedlkmgahicaaCrF
import Derived.Test.YtchedlkmgahicaaSxWi
set_option linter.unusedVariables false
namespace Go.Sx
open Go

def SepTo (As Bs : List Asn) : Prop := ∀ S h, Sep As S h → ∃ S', Sep Bs S' h ∧ ∀ b ∈ S', b ∈ S
theorem SepTo.hd {As : List Asn} (k : Nat) {A : Asn} (hk : As[k]? = some A) : SepTo As (A :: As.eraseIdx k) := fun S h hs => by
  obtain ⟨S1, S2, hm, hd, hA, hr, _⟩ := hs.focus k hk
  exact ⟨S1 ++ S2, ⟨S1, S2, rfl, hd, hA, hr⟩, fun b hb => (hm b).2 (List.mem_append.1 hb)⟩

section
variable {fr : Fr} {G As Bs : List Asn} {h h' : Heap}
theorem Hs.conv (st : Hs fr G As h) (c : SepTo As Bs) : Hs fr G Bs h := by
  obtain ⟨S, hs, hz, hf⟩ := st
  obtain ⟨S', hs', hm⟩ := c S h hs
  exact ⟨S', hs', hz.mono fun b hb => .inl (hm b hb), hf.mono fun b hb => .inl (hm b hb)⟩
theorem Hs.hd (st : Hs fr G As h) (k : Nat) {A : Asn} (hk : As[k]? = some A) : Hs fr G (A :: As.eraseIdx k) h := st.conv (SepTo.hd k hk)
end

section
variable {P : Program} {τ : Ty} {h : Heap} {Nx : List τ.T → τ.T → Heap → List Nat → Prop} {Nv : List τ.T → τ.T → Prop} {F : List Nat} {α : Type} {A : List τ.T → List Nat → HP} {D : List Nat → HP} {yl : Value} {G As Bs : List Asn} {pre : List τ.T} {B : List Nat} {h' : Heap}

theorem It.conv {A : List α → List Nat → HP} {pre : List α} (it : It h F A G As pre B h') (c : SepTo As Bs) : It h F A G Bs pre B h' := by
  obtain ⟨hA, hz, hBF, hF, hBl, S, hs, hS, hG⟩ := it
  obtain ⟨S', hs', hm⟩ := c S h' hs
  exact ⟨hA, hz, hBF, hF, hBl, S', hs', fun b hb => hS b (hm b hb), hG⟩

end
end Go.Sx
