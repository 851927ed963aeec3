/-
  More of the library's functions over slices: those that lay or turn rows. Nothing here names a program.
-/
import Derived.Test.YtchedlkmgahicaaSxW
set_option linter.unusedVariables false
namespace Go.Sx
open Go

def Leaf (τ : Ty) : Prop := ∀ v : τ.T, leafB (τ.enc v) = true
theorem leaf_int {k : IntKind} : Leaf (.int k) := fun _ => rfl
theorem leaf_bool : Leaf .bool := fun _ => rfl
theorem leaf_sl : Leaf .sl := fun _ => rfl

section
variable {P : Program} {τ : Ty} {t : TypeId} {h h' : Heap} {xs ys : List τ.T} {s s2 : Sl} {fr : Fr} {G As : List Asn} {by_ : Nat} {z : Value}

theorem stA_ok {b off : Nat} {t : TypeId} {K : HP} : ∀ (vs : List Value) {h : Heap} {c : List Value} (i : Nat) (hb : Blk h b t c), off + i + vs.length ≤ c.length → (∀ v ∈ vs, leafB v = true) →
    (∀ h', Blk h' b t (c.take (off + i) ++ vs ++ c.drop (off + i + vs.length)) → Ext [b] h h' → K h') → stA ⟨b, off, none⟩ i vs K h
  | [], h, c, i, hb, hl, hv, hK => hK h (by simpa using hb) (Ext.refl' _ _)
  | v :: vs, h, c, i, hb, hl, hv, hK => by
    simp only [stA, hv v (by simp), addr_add]
    simp only [List.length_cons] at hl
    rw [st_ok hb (by omega)]
    refine stA_ok vs (i + 1) (hb.set (off + i) v) (by simp; omega) (fun u hu => hv u (by simp [hu])) ?_
    intro h' hb' x
    have xs := (Ext.refl' [b] h).set ⟨b, off + i, none⟩ v (by simp)
    refine hK h' ?_ (xs.trans x (fun y hy => .inl hy))
    have e : List.take (off + (i + 1)) (c.set (off + i) v) ++ vs ++ List.drop (off + (i + 1) + vs.length) (c.set (off + i) v) = List.take (off + i) c ++ v :: vs ++ List.drop (off + i + (v :: vs).length) c := by
      have e1 : off + (i + 1) = off + i + 1 := by omega
      have e2 : List.take (off + i + 1) (c.set (off + i) v) = List.take (off + i) c ++ [v] := by
        rw [List.take_add_one, List.take_set_of_le (Nat.le_refl _), List.getElem?_set_self (by omega)]; rfl
      rw [e1, e2, List.drop_set_of_lt (by omega)]
      simp [Nat.add_assoc, Nat.add_comm 1]
    rw [e] at hb'; exact hb'

theorem cellsAt_of {a : Addr} : ∀ (vs : List Value) (off : Nat), (∀ i v, vs[i]? = some v → cell h (a.add (off + i)) = some v) → CellsAt h a off vs
  | [], off, _ => trivial
  | v :: vs, off, hc => ⟨hc 0 v rfl, cellsAt_of vs (off + 1) fun i u hu => by
    have := hc (i + 1) u (by simpa using hu)
    rw [← this]; congr 2; omega⟩

theorem rsl_first (hy : At h (rsl τ.enc ys s)) : FirstCells h s.a (s.len * 1) (ys.map τ.enc) := by
  have hl := rsl_len hy
  unfold FirstCells
  cases ha : s.a with
  | none =>
    obtain ⟨S, _, _, k⟩ := hy
    rcases k with ⟨e, _⟩ | ⟨a, ea, _⟩
    · subst e; rfl
    · rw [ha] at ea; cases ea
  | some a =>
    refine ⟨by simp [hl], cellsAt_of _ 0 fun i v hv => ?_⟩
    rw [List.getElem?_map] at hv
    cases hx : ys[i]? with
    | none => rw [hx] at hv; cases hv
    | some x =>
      rw [hx] at hv
      cases hv
      obtain ⟨a', ea, hc⟩ := rsl_cells hy hx
      rw [ha] at ea; cases ea
      simpa using hc

theorem Hs.apdS {K : Sl → HP} (st : Hs fr G As h) (k : Nat) (hk : As[k]? = some (osl t τ.enc xs s)) (hy : At h (rsl τ.enc ys s2)) (hleaf : Leaf τ)
    (hlen : (xs.length + ys.length) * by_ ≤ 140737488355328) (hby : 0 < by_)
    (hK : ∀ s' h', Hs fr G (As.set k (osl t τ.enc (xs ++ ys) s')) h' → K s' h') : Sx.apd t 1 by_ #[z] s s2 K h := by
  have hl := osl_len (st.own k hk)
  have hl2 := rsl_len hy
  have hfc := rsl_first hy
  obtain ⟨S1, p, hw⟩ := st.focus k hk
  refine ⟨ys.map τ.enc, hfc, fun hle => ?_, fun hgt => ?_⟩
  · rcases p with ⟨b', rest, eS, es, hb⟩ | ⟨eS, ex, e1, e2⟩
    · subst es
      simp only at hle hl ⊢
      rw [addr_add]
      refine stA_ok _ 0 hb (by simp; omega) (by intro v hv; obtain ⟨x, _, rfl⟩ := List.mem_map.1 hv; exact hleaf x) fun h' hb' x => ?_
      rw [hl2]
      refine hK _ _ (hw (osl t τ.enc (xs ++ ys) ⟨some ⟨b', 0, none⟩, xs.length + ys.length, xs.length + rest.length⟩) [b'] _ (by rw [eS]; exact x) (.inl ⟨b', rest.drop ys.length, rfl, ?_, ?_⟩) (by simp [eS]))
      · simp; omega
      · have e : List.take (0 + xs.length * 1 + 0) (List.map τ.enc xs ++ rest) ++ List.map τ.enc ys ++ List.drop (0 + xs.length * 1 + 0 + (List.map τ.enc ys).length) (List.map τ.enc xs ++ rest) = List.map τ.enc (xs ++ ys) ++ rest.drop ys.length := by
          have e1 : 0 + xs.length * 1 + 0 = (List.map τ.enc xs).length := by simp
          have e2 : (List.map τ.enc ys).length = ys.length := by simp
          rw [e1, List.take_left, e2, ← List.drop_drop, List.drop_left]
          simp
        rw [e] at hb'; exact hb'
    · subst ex
      have hy0 : ys = [] := by
        cases ys with
        | nil => rfl
        | cons y ys => simp only [List.length_cons] at hl2; omega
      subst hy0
      obtain ⟨sa, sl, sc⟩ := s
      simp only at e1 e2
      subst e1; subst e2
      have key : ∀ a, K ⟨a, 0, 0⟩ h := fun a => hK _ _ (hw (osl t τ.enc ([] ++ []) ⟨a, 0, 0⟩) [] h (Ext.refl' _ _) (.inr ⟨rfl, rfl, rfl, rfl⟩) (by simp))
      cases sa with
      | none => simp only [hl2, List.length_nil]; exact key none
      | some a => simp only [hl2, List.length_nil, List.map_nil, stA]; exact key (some a)
  · simp only [hl, hl2] at hgt ⊢
    refine ⟨hlen, hby, ?_⟩
    have key : FirstCells h s.a (xs.length * 1) (xs.map τ.enc) := by
      have := rsl_first (st.own k hk).rsl
      rwa [hl] at this
    refine ⟨_, key, fun nc h1 h2 => ?_⟩
    refine hK _ _ (hw (osl t τ.enc (xs ++ ys) ⟨some ⟨h.size, 0, none⟩, xs.length + ys.length, nc⟩) [h.size] _ ((Ext.refl' S1 h).push _) (.inl ⟨h.size, (Builtin.zeroCells #[z] (nc - (xs.length + ys.length))).toList, rfl, ?_, ?_⟩) (by simp))
    · have h1' : xs.length + ys.length ≤ nc := h1
      simp [Builtin.zeroCells]; omega
    · have := Blk.new h t (((xs.map τ.enc).toArray ++ (ys.map τ.enc).toArray) ++ Builtin.zeroCells #[z] (nc - (xs.length + ys.length)))
      simpa using this

def W_clone (t : TypeId) (by_ : Nat) (z : Value) (s : Sl) (K : Sl → HP) : HP :=
  brB (Option.isNone s.a) (K ⟨none, 0, 0⟩) (nw #[] t fun b0 => apd t 1 by_ #[z] ⟨some ⟨b0, 0, none⟩, 0, 0⟩ ⟨s.a, s.len, s.cap⟩ fun s1 => K ⟨s1.a, s1.len, s1.cap⟩)

theorem Hs.clone {K : Sl → HP} (st : Hs fr G As h) (hy : At h (rsl τ.enc ys s)) (hleaf : Leaf τ) (hlen : ys.length * by_ ≤ 140737488355328) (hby : 0 < by_)
    (hK : ∀ s' h', Hs fr G (As ++ [osl t τ.enc ys s']) h' → K s' h') : W_clone t by_ z s K h := by
  unfold W_clone
  cases ha : s.a with
  | none =>
    obtain ⟨S, _, _, k⟩ := hy
    rcases k with ⟨e, _⟩ | ⟨a, ea, _⟩
    · subst e; exact hK _ _ (st.nil t τ.enc none)
    · rw [ha] at ea; cases ea
  | some a =>
    simp only [Option.isNone_some, brB_false, nw_eq]
    have x1 := (Ext.refl' [] h).push (.cells #[] t)
    have st1 := (st.ext x1).nil t τ.enc (some ⟨h.size, 0, none⟩)
    have es : (⟨some a, s.len, s.cap⟩ : Sl) = s := by rw [← ha]
    rw [es]
    refine st1.apdS (t := t) (xs := []) (s := ⟨some ⟨h.size, 0, none⟩, 0, 0⟩) (s2 := s) As.length (by simp) (hy.ext x1) hleaf (by simpa using hlen) hby fun s' h' st2 => ?_
    simp only [List.nil_append, List.set_append_right _ _ (Nat.le_refl _), Nat.sub_self, List.set_cons_zero] at st2
    exact hK s' h' st2

theorem take_succ_getE {α : Type} {xs : List α} {i : Nat} (hi : i < xs.length) : xs.take (i + 1) = xs.take i ++ [xs[i]] := by
  rw [List.take_add_one]; simp [List.getElem?_eq_getElem hi]

end
end Go.Sx
