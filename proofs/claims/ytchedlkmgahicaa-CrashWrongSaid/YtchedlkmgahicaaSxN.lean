/-
  Slices whose elements have several cells each. Nothing here names a program.
-/
import Derived.Test.YtchedlkmgahicaaSxW3
set_option linter.unusedVariables false
namespace Go.Sx
open Go

def rsn {α : Type} (n : Nat) (enc : α → List Value) (xs : List α) (s : Sl) : Asn where
  P := fun S h => s.len = xs.length ∧ s.len ≤ s.cap ∧ ((xs = [] ∧ S = []) ∨ ∃ a, s.a = some a ∧ S = [a.block] ∧ isCells h a.block ∧ ∀ i x, xs[i]? = some x → ∀ j v, (enc x)[j]? = some v → cell h (a.add (i * n + j)) = some v)
  loc := fun {S h h'} ⟨e1, e2, k⟩ hz hk => ⟨e1, e2, k.imp id fun ⟨a, ea, eS, hc, hx⟩ => by
    have eb := hk a.block (by simp [eS])
    refine ⟨a, ea, eS, ?_, fun i x hi j v hv => ?_⟩
    · exact hc.of_eq eb
    · have := hx i x hi j v hv
      unfold cell at this ⊢
      have eb2 : (a.add (i * n + j)).block = a.block := by unfold Addr.add; split <;> rfl
      rw [eb2] at this ⊢
      rw [eb]; exact this⟩
  cel := fun {S h} ⟨e1, e2, k⟩ b hb => by
    rcases k with ⟨_, e⟩ | ⟨a, _, e, hc, _⟩
    · subst e; cases hb
    · subst e; simp at hb; subst hb; exact hc

def osn {α : Type} (t : TypeId) (n : Nat) (enc : α → List Value) (xs : List α) (s : Sl) : Asn where
  P := fun S h => (∃ b rest cap, S = [b] ∧ s = ⟨some ⟨b, 0, none⟩, xs.length, xs.length + cap⟩ ∧ rest.length = cap * n ∧ Blk h b t ((xs.map enc).flatten ++ rest)) ∨ (S = [] ∧ xs = [] ∧ s.len = 0 ∧ s.cap = 0)
  loc := fun {S h h'} k hz hk => k.imp (fun ⟨b, rest, cap, e, es, hr, hb⟩ => ⟨b, rest, cap, e, es, hr, by unfold Blk; rw [hk b (by simp [e])]; exact hb⟩) id
  cel := fun {S h} k b hb => by
    rcases k with ⟨b', rest, cap, e, es, hr, hk⟩ | ⟨e, _⟩
    · subst e; simp at hb; subst hb; exact hk.isCells
    · subst e; cases hb

def Wide {α : Type} (n : Nat) (enc : α → List Value) : Prop := ∀ x, (enc x).length = n

section
variable {α : Type} {n : Nat} {enc : α → List Value} {xs : List α} {s : Sl} {fr : Fr} {G As : List Asn} {h h' : Heap} {A : Asn} {b i : Nat} {t : TypeId} {c : List Value}

theorem rsn_len (hA : At h (rsn n enc xs s)) : s.len = xs.length := let ⟨_, e, _⟩ := hA; e
theorem rsn_cells (hA : At h (rsn n enc xs s)) {i : Nat} {x : α} (hi : xs[i]? = some x) : ∃ a, s.a = some a ∧ ∀ j v, (enc x)[j]? = some v → cell h (a.add (i * n + j)) = some v := by
  obtain ⟨S, e, _, k⟩ := hA
  rcases k with ⟨e, _⟩ | ⟨a, ea, _, _, hx⟩
  · subst e; simp at hi
  · exact ⟨a, ea, hx i x hi⟩

theorem rdN {τ : Ty} {xs : List τ.T} (hA : At h (rsn n τ.vals xs s)) {i : Nat} (hi : i < xs.length) {K : τ.T → HP} (hK : K xs[i] h) : sx s.a s.len (i : Int) n (fun p => ldA τ p K) h := by
  obtain ⟨a, ea, hc⟩ := rsn_cells hA (List.getElem?_eq_getElem hi)
  refine ⟨a, ea, by omega, by rw [rsn_len hA]; omega, xs[i], cellsAt_of _ 0 fun j v hv => ?_, hK⟩
  rw [Int.toNat_natCast, addr_add_add, Nat.zero_add]
  exact hc j v hv

theorem rdNf {σ : Ty} (hA : At h (rsn n enc xs s)) {i : Nat} (hi : i < xs.length) (j : Nat) {v : σ.T} (hv : (enc xs[i])[j]? = some (σ.enc v)) {K : σ.T → HP} (hK : K v h) : sx s.a s.len (i : Int) n (fun p => ldT σ (p.add j) K) h := by
  obtain ⟨a, ea, hc⟩ := rsn_cells hA (List.getElem?_eq_getElem hi)
  refine ⟨a, ea, by omega, by rw [rsn_len hA]; omega, v, ?_, hK⟩
  rw [Int.toNat_natCast, addr_add_add]
  exact hc j _ hv
theorem flat_len (hw : Wide n enc) : ∀ xs : List α, (xs.map enc).flatten.length = xs.length * n
  | [] => by simp
  | x :: xs => by simp only [List.map_cons, List.flatten_cons, List.length_append, hw x, flat_len hw xs, List.length_cons, Nat.succ_mul]; omega
theorem flat_get (hw : Wide n enc) : ∀ {xs : List α} {i : Nat} {x : α}, xs[i]? = some x → ∀ {j : Nat} {v : Value} (R : List Value), (enc x)[j]? = some v → ((xs.map enc).flatten ++ R)[i * n + j]? = some v
  | y :: ys, 0, x, hi, j, v, R, hv => by
    simp at hi; subst hi
    have hj : j < (enc y).length := (List.getElem?_eq_some_iff.1 hv).1
    simp only [List.map_cons, List.flatten_cons, Nat.zero_mul, Nat.zero_add, List.append_assoc]
    rw [List.getElem?_append_left hj]; exact hv
  | y :: ys, i + 1, x, hi, j, v, R, hv => by
    simp only [List.map_cons, List.flatten_cons, List.append_assoc]
    rw [List.getElem?_append_right (by rw [hw y, Nat.succ_mul]; omega), hw y]
    have e : (i + 1) * n + j - n = i * n + j := by rw [Nat.succ_mul]; omega
    rw [e]
    exact flat_get hw (by simpa using hi) R hv

theorem osn_rsn {S : List Nat} (hw : Wide n enc) (p : (osn t n enc xs s).P S h) : (rsn n enc xs s).P S h := by
  rcases p with ⟨b, rest, cap, e, es, hr, hb⟩ | ⟨e, ex, e1, e2⟩
  · subst es
    refine ⟨rfl, by simp, .inr ⟨⟨b, 0, none⟩, rfl, e, hb.isCells, fun i x hi j v hv => ?_⟩⟩
    rw [addr_add, cell_blk hb, Nat.zero_add]
    exact flat_get hw hi rest hv
  · exact ⟨by simp [ex, e1], by omega, .inl ⟨ex, e⟩⟩
theorem At.rsn (hw : Wide n enc) (hA : At h (osn t n enc xs s)) : At h (rsn n enc xs s) := let ⟨S, p⟩ := hA; ⟨S, osn_rsn hw p⟩
theorem osn_len (hA : At h (osn t n enc xs s)) : s.len = xs.length := by
  obtain ⟨S, p⟩ := hA
  rcases p with ⟨b, rest, cap, e, es, hr, hb⟩ | ⟨e, ex, e1, e2⟩
  · subst es; rfl
  · subst ex; exact e1
theorem osn_nil {a : Option Addr} (k : Nat) (h : Heap) : New k h (osn t n enc ([] : List α) ⟨a, 0, 0⟩) := ⟨[], .inr ⟨rfl, rfl, rfl, rfl⟩, by simp⟩
theorem Hs.niln (st : Hs fr G As h) (t : TypeId) (n : Nat) (enc : α → List Value) (a : Option Addr) : Hs fr G (As ++ [osn t n enc ([] : List α) ⟨a, 0, 0⟩]) h := st.new (Ext.refl' _ _) (osn_nil _ _)
theorem Hs.asSn (st : Hs fr G As h) (k : Nat) (n : Nat) (enc : α → List Value) (xs : List α) (hk : As[k]? = some (cl b t c)) (hc : c = (xs.map enc).flatten) : Hs fr G (As.set k (osn t n enc xs ⟨some ⟨b, 0, none⟩, xs.length, xs.length⟩)) h :=
  st.imp k hk fun S h ⟨e, hb⟩ => .inl ⟨b, [], 0, e, rfl, by simp, by simpa [← hc] using hb⟩

theorem osn_first {S : List Nat} (hw : Wide n enc) (p : (osn t n enc xs s).P S h) : FirstCells h s.a (s.len * n) (xs.map enc).flatten := by
  rcases p with ⟨b', rest, cap, eS, es, hr, hb⟩ | ⟨_, ex, e1, e2⟩
  · subst es
    refine ⟨flat_len hw xs, CellsAt_blk' _ hb 0 fun j hj => ?_⟩
    simp only [Nat.zero_add, Nat.add_zero]; exact List.getElem?_append_left hj
  · subst ex
    unfold FirstCells
    cases s.a with
    | none => rfl
    | some a => rw [e1]; exact ⟨by simp, trivial⟩

theorem Hs.apdN {v : α} {by_ : Nat} {z : Array Value} {K : Sl → HP} (st : Hs fr G As h) (hw : Wide n enc) (hn : 0 < n) (k kx : Nat) (hk : As[k]? = some (osn t n enc xs s)) (hkx : As[kx]? = some (cl b t (enc v))) (hne : k ≠ kx)
    (hv : ∀ u ∈ enc v, leafB u = true) (hlen : (xs.length + 1) * by_ ≤ 140737488355328) (hby : 0 < by_) (hz : z.size = n)
    (hK : ∀ s' h', Hs fr G (As.set k (osn t n enc (xs ++ [v]) s')) h' → K s' h') : Sx.apd t n by_ z s ⟨some ⟨b, 0, none⟩, 1, 1⟩ K h := by
  have hx := st.blk kx hkx
  have hl := osn_len (st.own k hk)
  obtain ⟨S1, p, hwr⟩ := st.focus k hk
  have hf := osn_first hw p
  refine ⟨enc v, ⟨by simp [hw v], CellsAt_blk' _ hx 0 fun j hj => by simp⟩, fun hle => ?_, fun hgt => ?_⟩
  · rcases p with ⟨b', rest, cap, eS, es, hr, hb⟩ | ⟨_, _, e1, e2⟩
    · subst es
      simp only at hle hl ⊢
      have hc0 : 0 < cap := by omega
      have hrl : n ≤ rest.length := by rw [hr]; exact Nat.le_mul_of_pos_left n hc0
      rw [addr_add]
      refine stA_ok _ 0 hb (by rw [List.length_append, flat_len hw, hw v]; omega) hv fun h' hb' x => ?_
      have e : List.take (0 + xs.length * n + 0) ((xs.map enc).flatten ++ rest) ++ enc v ++ List.drop (0 + xs.length * n + 0 + (enc v).length) ((xs.map enc).flatten ++ rest) = ((xs ++ [v]).map enc).flatten ++ rest.drop n := by
        have e1 : 0 + xs.length * n + 0 = (xs.map enc).flatten.length := by rw [flat_len hw]; omega
        rw [e1, List.take_left, hw v, ← List.drop_drop, List.drop_left]
        simp
      rw [e] at hb'
      refine hK _ _ (hwr (osn t n enc (xs ++ [v]) ⟨some ⟨b', 0, none⟩, xs.length + 1, xs.length + cap⟩) [b'] _ (by rw [eS]; exact x) (.inl ⟨b', rest.drop n, cap - 1, rfl, ?_, ?_, hb'⟩) (by simp [eS]))
      · simp; omega
      · rw [List.length_drop, hr, Nat.sub_mul, Nat.one_mul]
    · exfalso; simp only [e1, e2] at hle; omega
  · simp only at hgt ⊢
    rw [hl] at hgt ⊢
    refine ⟨hlen, hby, ?_⟩
    rw [hl] at hf
    refine ⟨_, hf, fun nc h1 h2 => ?_⟩
    refine hK _ _ (hwr (osn t n enc (xs ++ [v]) ⟨some ⟨h.size, 0, none⟩, xs.length + 1, nc⟩) [h.size] _ ((Ext.refl' S1 h).push _) (.inl ⟨h.size, (Builtin.zeroCells z (nc - (xs.length + 1))).toList, nc - (xs.length + 1), rfl, ?_, ?_, ?_⟩) (by simp))
    · have h1' : xs.length + 1 ≤ nc := h1
      simp; omega
    · simp [Builtin.zeroCells, hz]
    · have := Blk.new h t (((xs.map enc).flatten.toArray ++ (enc v).toArray) ++ Builtin.zeroCells z (nc - (xs.length + 1)))
      simpa using this

end
end Go.Sx

set_option linter.unusedVariables false
namespace Go.Sx
open Go

section
variable {P : Program} {τ : Ty} {t : TypeId} {n : Nat} {h h' : Heap} {xs ys : List τ.T} {s s2 : Sl} {fr : Fr} {G As : List Asn} {by_ : Nat}

def PredOkN (P : Program) (τ : Ty) (fv : Value) (p : τ.T → Bool) (xs : List τ.T) (h : Heap) : Prop :=
  ∀ x ∈ xs, ∀ h', Ext [] h h' → callF P fv #[.agg (τ.vals x).toArray] .bool (fun r h2 => r = p x ∧ Ext [] h' h2) h'

def W_indexFuncN (P : Program) (τ : Ty) (n : Nat) (s : Sl) (fv : Value) (K : Int → HP) : HP :=
  lfp (σ := Int × Int × Unit) (fun X0 s1 => brB (decide (s1.1 < (s.len : Int)))
    (sx s.a s.len s1.1 n fun p2 => ldA τ p2 fun x3 => callF P fv #[.agg (τ.vals x3).toArray] .bool fun r4 => brB r4 (K s1.1) (X0 ((IntKind.wrap .i64 (s1.1 + (1 : Int))), s1.2.1, ())))
    (K (-1 : Int))) ((0 : Int), (0 : Int), ())

theorem w_indexFuncN {fv : Value} {p : τ.T → Bool} (hA : At h (rsn n τ.vals xs s)) (hl : xs.length ≤ 1099511627776) (hp : PredOkN P τ fv p xs h) {K : Int → HP} (hK : ∀ h', Ext [] h h' → K (fidx p xs) h') : W_indexFuncN P τ n s fv K h := by
  have l1 := rsn_len hA
  refine lfp_invh (I := fun m σ h' => ∃ i : Nat, σ = ((i : Int), 0, ()) ∧ i ≤ xs.length ∧ (∀ j (hj : j < i) (h2 : j < xs.length), p xs[j] = false) ∧ Ext [] h h' ∧ m = xs.length - i) ⟨_, 0, rfl, by omega, fun j hj => by omega, Ext.refl' _ _, rfl⟩ ?_
  rintro m σ h' X ⟨i, rfl, hi, hn, x, em⟩ hX
  simp only
  by_cases hlt : i < xs.length
  · rw [show decide ((i : Int) < (s.len : Int)) = true by rw [l1]; exact dlt_t hlt, brB_true, inc_i (show i < 4611686018427387904 by omega)]
    refine rdN (hA.ext x) hlt ?_
    refine callF_of (hp _ (List.getElem_mem hlt) h' x) ?_
    rintro r h2 ⟨er, x2⟩
    have er : r = p xs[i] := er
    subst er
    cases hpx : p xs[i] with
    | true =>
      rw [brB_true]
      have := hK h2 (x.nil_trans x2)
      rw [fidx_some hlt hpx fun j hj => hn j hj (by omega)] at this; exact this
    | false =>
      rw [brB_false]
      refine hX _ _ _ ⟨i + 1, rfl, by omega, fun j hj h3 => ?_, x.nil_trans x2, rfl⟩ (by omega)
      rcases Nat.lt_or_ge j i with q | q
      · exact hn j q h3
      · have : j = i := by omega
        subst this; exact hpx
  · rw [show decide ((i : Int) < (s.len : Int)) = false by rw [l1]; exact dlt_f hlt, brB_false]
    have := hK h' x
    rw [fidx_none fun j hj => hn j (by omega) hj] at this; exact this

end
end Go.Sx

set_option linter.unusedVariables false
namespace Go.Sx
open Go

section
variable {τ : Ty} {t : TypeId} {h h' : Heap} {fr : Fr} {G As : List Asn} {by_ : Nat}

theorem Hs.mks1 (st : Hs fr G As h) {n : Nat} {z : τ.T} {K : Sl → HP} (hn : n * by_ ≤ 140737488355328) (hby : 0 < by_) (hK : ∀ s' h', Hs fr G (As ++ [osl t τ.enc (List.replicate n z) s']) h' → K s' h') :
    Sx.mks t 1 by_ #[τ.enc z] (n : Int) (n : Int) K h := by
  have hn2 : n ≤ 140737488355328 := Nat.le_trans (Nat.le_mul_of_pos_right n hby) hn
  have e1 : (by_ : Int) * (n : Int) = ((n * by_ : Nat) : Int) := by rw [Int.natCast_mul, Int.mul_comm]
  refine ⟨Int.natCast_nonneg _, Int.le_refl _, by rw [e1]; omega, by omega, ?_⟩
  simp only [Int.toNat_natCast]
  refine hK _ _ (st.new ((Ext.refl' [] h).push _) ⟨[h.size], .inl ⟨h.size, [], rfl, by simp, ?_⟩, by simp⟩)
  have := Blk.new h t (if n * 1 = 0 then #[] else zrow #[τ.enc z] (n * 1))
  have e : (if n * 1 = 0 then (#[] : Array Value) else zrow #[τ.enc z] (n * 1)).toList = List.map τ.enc (List.replicate n z) ++ [] := by
    rw [Nat.mul_one, List.append_nil, List.map_replicate]
    by_cases h0 : n = 0
    · subst h0; rfl
    · rw [if_neg h0]
      apply List.ext_getElem
      · simp [zrow]
      · intro i h1 h2; simp [zrow, Nat.mod_one]
  rw [e] at this; exact this
end
end Go.Sx
