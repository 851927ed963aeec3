/-
  The list of what All hands over.
-/
import Derived.Test.YtkfdfbgceockpaaOrdN
set_option linter.unusedVariables false
set_option linter.unusedSimpArgs false
set_option linter.unusedSectionVars false
namespace Go.Proofs.Ord
open Go Go.Sx Go.Proofs

abbrev fsts (pre : List (Int × Unit)) : List Int := pre.map (·.1)

/-- Where the list stands. -/
structure ListAt (h : Heap) (pre : List (Int × Unit)) (B : List Nat) (h' : Heap) (sb : Nat) (s : Sl) : Prop where
  eB : B = [h.size, h.size + 1, h.size + 2, sb]
  k0 : Blk h' h.size 35 [.slice none 0 0]
  k1 : Blk h' (h.size + 1) 4 [.bool false]
  k2 : Blk h' (h.size + 2) 35 [.slice s.a s.len s.cap]
  ks : (ISl h' sb (fsts pre) s ∧ h.size + 4 ≤ sb) ∨ (pre = [] ∧ s.len = 0 ∧ s.cap = 0 ∧ sb = h.size)
  x : Ext [] h h'
  sz : h.size + 4 ≤ h'.size

theorem ListAt.ext {h h1 h2 : Heap} {pre : List (Int × Unit)} {B T : List Nat} {sb : Nat} {s : Sl} (l : ListAt h pre B h1 sb s) (he : Ext T h1 h2) (hT : ∀ t ∈ T, t ∉ B ∧ h.size ≤ t) : ListAt h pre B h2 sb s := by
  have nin : ∀ b, b ∈ B → b ∉ T := fun b hb ht => (hT b ht).1 hb
  have eB := l.eB
  subst eB
  refine ⟨rfl, l.k0.ext he (nin _ (by simp)), l.k1.ext he (nin _ (by simp)), l.k2.ext he (nin _ (by simp)), ?_, l.x.trans he fun b hb => .inr (hT b hb).2, Nat.le_trans l.sz he.1⟩
  rcases l.ks with ⟨⟨rest, e, hb⟩, h4⟩ | hh
  · exact .inl ⟨⟨rest, e, hb.ext he (nin _ (by simp))⟩, h4⟩
  · exact .inr hh

theorem list_c {h : Heap} {S : List Nat} {o n : Nat} {act : List Int} {step : Int} {L : List Int} (r : Rep h S o n act step L) (hn : n ≤ 5000) :
    callT Try.prog fn_salvorlaw11_list #[.pointer (pt o)] (.tup (.cons .sl (.cons .bool .nil)))
      (fun x h' => ∃ s b, x = (s, true, ()) ∧ ISl0 h' b L s ∧ h.size ≤ b ∧ b < h'.size ∧ Ext [] h h') h := by
  refine callT_gen fun K hK => ?_
  apply S_salvorlaw11_list
  unfold F_salvorlaw11_list
  simp only [nw_eq]
  have x1 := (Ext.refl [] h).push (.cells #[.slice none 0 0] 35)
  have k0 := Blk.new h 35 #[.slice none 0 0]
  have s1 : (h.push (.cells #[.slice none 0 0] 35)).size = h.size + 1 := by simp
  generalize h.push (.cells #[.slice none 0 0] 35) = h1 at *
  have x2 := x1.push (.cells #[.bool false] 4)
  have k1 := Blk.new h1 4 #[.bool false]
  have k0 := k0.push (.cells #[.bool false] 4)
  have s2 : (h1.push (.cells #[.bool false] 4)).size = h.size + 2 := by simp [s1]
  rw [s1] at k1 ⊢
  generalize h1.push (.cells #[.bool false] 4) = h2 at *
  have x3 := x2.push (.cells #[.slice none 0 0] 35)
  have k2 := Blk.new h2 35 #[.slice none 0 0]
  have k0 := k0.push (.cells #[.slice none 0 0] 35)
  have k1 := k1.push (.cells #[.slice none 0 0] 35)
  have s3 : (h2.push (.cells #[.slice none 0 0] 35)).size = h.size + 3 := by simp [s2]
  rw [s2] at k2 ⊢
  generalize h2.push (.cells #[.slice none 0 0] 35) = h3 at *
  refine call_of (all_c o h3) ?_
  rintro fv h4 ⟨rfl, rfl⟩
  have x4 := x3.push (.cells #[.pointer (pt o)] 24)
  have kc := Blk.new h3 24 #[.pointer (pt o)]
  have k0 := k0.push (.cells #[.pointer (pt o)] 24)
  have k1 := k1.push (.cells #[.pointer (pt o)] 24)
  have k2 := k2.push (.cells #[.pointer (pt o)] 24)
  have s4 : (h3.push (.cells #[.pointer (pt o)] 24)).size = h.size + 4 := by simp [s3]
  rw [s3] at kc ⊢
  generalize h3.push (.cells #[.pointer (pt o)] 24) = h4 at *
  have at0 : ListAt h [] [h.size, h.size + 1, h.size + 2, h.size] h4 h.size ⟨none, 0, 0⟩ := ⟨rfl, k0, k1, k2, .inr ⟨rfl, rfl, rfl, rfl⟩, x4, by omega⟩
  have rep4 := r.ext x4 (by simp)
  have hL := r.len
  refine ⟨_, _, [], [], by simp, fun h5 hn5 => all_iter (rep4.ext hn5.1 (by simp)) (kc.ext hn5.1 (by simp)),
    fun pre B h' => (∃ r, fsts pre ++ r = L) ∧ ∃ sb s, ListAt h pre B h' sb s, fun _ _ _ => False, _, ?_, ?_, ?_, ⟨⟨L, rfl⟩, _, _, at0⟩, ?_, ?_, ?_, trivial⟩
  · intro b hb; simp at hb; simp; omega
  · rintro pre B h1' h2' T ⟨hr, sb, s, l⟩ he hT
    exact ⟨hr, sb, s, l.ext he fun t ht => ⟨(hT t ht).1, (hT t ht).2.elim (fun k => by omega) (fun k => by cases k)⟩⟩
  · intro j B h1' h2' T hf; exact hf.elim
  · rintro pre x B h' N ⟨⟨rr, hr⟩, rfl⟩ hN ⟨_, sb, s, l⟩ h6 hoff
    have eB := l.eB
    subst eB
    have k0 := l.k0.off hoff
    have k1 := l.k1.off hoff
    have k2 := l.k2.off hoff
    have ks : (ISl h6 sb (fsts pre) s ∧ h.size + 4 ≤ sb) ∨ (pre = [] ∧ s.len = 0 ∧ s.cap = 0 ∧ sb = h.size) := by
      rcases l.ks with ⟨⟨rest, e, hb⟩, h4⟩ | hh
      · exact .inl ⟨⟨rest, e, hb.off hoff⟩, h4⟩
      · exact .inr hh
    have x6 := l.x.off hoff (by omega)
    simp only [ld_sl (i := 0) k2 rfl, nw_eq]
    have x7 := x6.push (.cells #[.int .i64 x.1] 3)
    have xx := (Ext.refl [] h6).push (.cells #[.int .i64 x.1] 3)
    have kb := Blk.new h6 3 #[.int .i64 x.1]
    have k0 := k0.ext xx (by simp)
    have k1 := k1.ext xx (by simp)
    have k2 := k2.ext xx (by simp)
    have s7 : (h6.push (.cells #[.int .i64 x.1] 3)).size = h6.size + 1 := by simp
    have ks : ISl0 (h6.push (.cells #[.int .i64 x.1] 3)) sb (fsts pre) s ∧ (0 < s.cap → h.size + 4 ≤ sb) := by
      rcases ks with ⟨⟨rest, e, hb⟩, h4⟩ | ⟨e1, e2, e3, e4⟩
      · exact ⟨.inl ⟨rest, e, hb.ext xx (by simp)⟩, fun _ => h4⟩
      · exact ⟨.inr ⟨by rw [e1]; rfl, e2, e3⟩, fun h => by omega⟩
    obtain ⟨ks, hcap⟩ := ks
    have lt2 := k2.lt
    have lth : h'.size = h6.size := hoff.1.symm
    have hpl : (fsts pre).length + 1 ≤ 5000 := by
      have := congrArg List.length hr
      simp at this ⊢; omega
    generalize h6.push (.cells #[.int .i64 x.1] 3) = h7 at *
    refine apd_ok ks kb (by omega) ?_
    rintro s' h8 b' is8 hwh
    have b8 : h.size + 4 ≤ b' := by
      have h43 := l.sz
      rcases hwh with ⟨rfl, _, hc⟩ | ⟨rfl, _⟩
      · exact hcap hc
      · omega
    have hx8 : Ext [sb] h7 h8 := by
      rcases hwh with ⟨_, hx, _⟩ | ⟨_, hx⟩
      · exact hx
      · exact hx.mono (by simp)
    have sbk : ∀ b, b ∈ [h.size, h.size + 1, h.size + 2] → ∀ t c, Blk h7 b t c → Blk h8 b t c := by
      intro b hb t c hk
      rcases hwh with ⟨e, hx, hc⟩ | ⟨_, hx⟩
      · have := hcap hc; refine hk.ext hx ?_; simp at hb ⊢; omega
      · exact hk.ext hx (by simp)
    have k0 := sbk _ (by simp) _ _ k0
    have k1 := sbk _ (by simp) _ _ k1
    have k2 := sbk _ (by simp) _ _ k2
    have x8 : Ext [] h h8 := x7.trans (S' := if 0 < s.cap then [sb] else []) (by
      rcases hwh with ⟨_, hx, hc⟩ | ⟨_, hx⟩
      · rw [if_pos hc]; exact hx
      · exact hx.mono (by simp)) (by
      intro b hb
      split at hb
      · rename_i hc; have := hcap hc; simp at hb; exact .inr (by omega)
      · cases hb)
    rw [st_ok k2 (by simp)]
    have xs := (Ext.refl [h.size + 2] h8).set ⟨h.size + 2, 0, none⟩ (.slice s'.a s'.len s'.cap) (by simp)
    have k0 := k0.ext xs (by simp)
    have k1 := k1.ext xs (by simp)
    have k2 := k2.set 0 (.slice s'.a s'.len s'.cap)
    have x9 := x8.trans xs (by intro b hb; simp at hb; exact .inr (by omega))
    obtain ⟨rest, rfl, hb8⟩ := is8
    have hb9 := hb8.ext xs (by simp; omega)
    have z7 := hx8.1
    have z9 := xs.1
    generalize setC h8 ⟨h.size + 2, 0, none⟩ (.slice (pt b') (fsts pre ++ [x.1]).length ((fsts pre ++ [x.1]).length + rest.length)) = h9 at *
    rw [ld_sl (i := 0) k2 rfl]
    have e5 : decide ((((fsts pre ++ [x.1]).length : Nat) : Int) > 5000) = false := by simp at hpl ⊢; omega
    simp only [e5, brB_false]
    have ef : fsts (pre ++ [x]) = fsts pre ++ [x.1] := by simp
    refine ⟨[h.size, h.size + 1, h.size + 2, b'], ⟨?_, ?_⟩, ?_, ⟨rr, by rw [ef, ← hr]; simp⟩, b', _, ⟨rfl, k0, k1, k2, .inl ⟨⟨rest, by rw [ef], by rw [ef]; exact hb9⟩, b8⟩, x9, ?_⟩⟩
    · intro b hb
      simp at hb ⊢
      rcases hwh with ⟨e, _⟩ | ⟨e, _⟩ <;> omega
    · intro b hb
      have l9 := hb9.lt
      simp at hb
      rcases hb with rfl | rfl | rfl | rfl
      · exact .inl (by simp)
      · exact .inl (by simp)
      · exact .inl (by simp)
      · exact .inr l9
    · refine round_done (S := [sb, h.size + 2]) hoff (((xx.mono (S' := [sb, h.size + 2]) (by simp)).trans hx8 (by intro b hb; simp at hb ⊢; omega)).trans xs (by intro b hb; simp at hb ⊢; omega)) (by intro b hb; simp at hb ⊢; omega)
    · have := l.sz; omega
  · rintro pre B h' hf ⟨_, sb, s, l⟩
    have eB := l.eB
    subst eB
    simp only [ld_sl (i := 0) l.k2 rfl]
    have lt2 := l.k2.lt
    rw [st_ok l.k0 (by simp)]
    have xa := (Ext.refl [h.size] h').set ⟨h.size, 0, none⟩ (.slice s.a s.len s.cap) (by simp)
    have k0 := l.k0.set 0 (.slice s.a s.len s.cap)
    have k1 := l.k1.ext xa (by simp)
    have ks : (ISl (setC h' ⟨h.size, 0, none⟩ (.slice s.a s.len s.cap)) sb (fsts pre) s ∧ h.size + 4 ≤ sb) ∨ (pre = [] ∧ s.len = 0 ∧ s.cap = 0 ∧ sb = h.size) := by
      rcases l.ks with ⟨⟨rest, e, hb⟩, h4⟩ | hh
      · exact .inl ⟨⟨rest, e, hb.ext xa (by simp; omega)⟩, h4⟩
      · exact .inr hh
    have x2 := l.x.trans xa (by intro b hb; simp at hb; exact .inr (by omega))
    have za := xa.1
    generalize setC h' ⟨h.size, 0, none⟩ (.slice s.a s.len s.cap) = ha at *
    rw [st_ok k1 (by simp)]
    have xb := (Ext.refl [h.size + 1] ha).set ⟨h.size + 1, 0, none⟩ (.bool true) (by simp)
    have k0 := k0.ext xb (by simp)
    have k1 := k1.set 0 (.bool true)
    have ks : (ISl (setC ha ⟨h.size + 1, 0, none⟩ (.bool true)) sb (fsts pre) s ∧ h.size + 4 ≤ sb) ∨ (pre = [] ∧ s.len = 0 ∧ s.cap = 0 ∧ sb = h.size) := by
      rcases ks with ⟨⟨rest, e, hb⟩, h4⟩ | hh
      · exact .inl ⟨⟨rest, e, hb.ext xb (by simp; omega)⟩, h4⟩
      · exact .inr hh
    have x3 := x2.trans xb (by intro b hb; simp at hb; exact .inr (by omega))
    have zb := xb.1
    generalize setC ha ⟨h.size + 1, 0, none⟩ (.bool true) = hb at *
    intro hm hmk
    have k0 := k0.marked hmk
    have k1 := k1.marked hmk
    rw [ld_sl (i := 0) k0 rfl, ld_bool (i := 0) k1 rfl]
    have x4 := x3.marked hmk
    have zm := hmk.1
    refine hK _ _ ?_
    have hf : fsts pre = L := hf
    rcases ks with ⟨⟨rest, e, hbk⟩, h4⟩ | ⟨e1, e2, e3, e4⟩
    · have := (hbk.marked hmk).lt
      exact ⟨_, sb, rfl, .inl ⟨rest, by rw [← hf]; exact e, by rw [← hf]; exact hbk.marked hmk⟩, by omega, this, x4⟩
    · exact ⟨_, h.size, rfl, .inr ⟨by rw [← hf, e1]; rfl, e2, e3⟩, by omega, by omega, x4⟩
  · intro B h' hf; exact hf.elim

end Go.Proofs.Ord
