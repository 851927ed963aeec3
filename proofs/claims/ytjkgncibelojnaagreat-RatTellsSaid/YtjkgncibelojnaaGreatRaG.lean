/-
  The package rat: Search: contract.
-/
import Derived.Test.YtjkgncibelojnaaGreatRaE
import Derived.Test.YtjkgncibelojnaaGreatRtT
set_option linter.unusedVariables false
set_option linter.unusedSimpArgs false
namespace Go.Sx
open Go
theorem Hs.fzNew {fr : Fr} {G As Bs : List Asn} {h h' : Heap} (st : Hs fr G As h) (x : Ext [] h h') (hB : ∀ B ∈ Bs, New h.size h' B) : Hs fr (G ++ Bs) As h' := by
  obtain ⟨S, hs, hz, hf⟩ := st
  refine ⟨S, hs.keep x.1 (fun b hb => x.2 b (hs.cel b hb).lt (by simp)), fun A hA => ?_, fun p hp => ⟨(hf p hp).1.nil_trans x, (hf p hp).2⟩⟩
  rcases List.mem_append.1 hA with k | k
  · obtain ⟨S1, p, d⟩ := hz A k
    exact ⟨S1, Asn.ext p x (by simp), d⟩
  · obtain ⟨S1, p, q⟩ := hB A k
    exact ⟨S1, p, fun b hb hin => by have := q b hb; have := (hs.cel b hin).lt; omega⟩
end Go.Sx
namespace Go.Proofs.S
open Go Go.Sx Go.Proofs Go.Cl Go.Rp Go.Rt

variable {h : Heap} {c d A ids : List Int} {l : List Ent} {gs : List Grp} {s s2 sc : Sl} {fr : Fr} {G As : List Asn} {id p : Int} {b2 b3 b4 b5 : Nat} {x y z : Sl} {kd e : Int} {ok : Bool}

theorem ent_new {n : Nat} {t : TypeId} {gps : List tPr.T} {sG : Sl} (hr : New n h (osn t 2 tPr.vals gps sG)) (hi : New n h (inn (fun c p => nio' c p) (gs.map (·.2)) (gps.map (·.2.1)))) (hids : gps.map (·.1) = gs.map (·.1)) : New n h (ent gs sG) := by
  have hl : gps.length = gs.length := by simpa using congrArg List.length hids
  refine rsp_new (ps := gps) hl ?_ fun i h1 h2 => ⟨?_, ?_⟩
  · obtain ⟨S, p, q⟩ := hr
    exact ⟨S, osn_rsn widePr p, q⟩
  · have := congrArg (fun l => l[i]?) hids
    simpa [h1, h2] using this
  · obtain ⟨S, p, q⟩ := hi
    obtain ⟨S', p', hsub⟩ := Inner.getS p i (by simpa using h1) (by simpa using h2)
    simp only [List.getElem_map] at p'
    exact ⟨S', osl_rsl p', fun b hb => q b (hsub b hb)⟩

end Go.Proofs.S
