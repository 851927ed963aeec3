/-
  A slice of one's own is sorted.
-/
import Derived.Test.YtchedlkmgahicaaSxPs
set_option linter.unusedVariables false
namespace Go.Sx
open Go Go.Sort

section
variable {P : Program} {τ : Ty} {f : SF} {t : TypeId} {h : Heap} {lt : τ.T → τ.T → Bool} {cmp : Value}

theorem permIn_all_perm {d d' : Array τ.T} (h : PermIn 0 d.size d d') : d'.toList.Perm d.toList := by
  have := h.2.2
  have e1 : (d'.extract 0 d.size).toList = d'.toList := by rw [← h.1]; simp
  have e2 : (d.extract 0 d.size).toList = d.toList := by simp
  rwa [e1, e2] at this

theorem sorted_pairwise {d : Array τ.T} (h : SortedIn lt 0 d.size d) : d.toList.Pairwise (fun a b => lt b a = false) := by
  rw [List.pairwise_iff_getElem]
  intro i j hi hj hij
  have := h i j (Nat.zero_le _) hij (by simpa using hj)
  simpa [show i < d.size by simpa using hi, show j < d.size by simpa using hj] using this

theorem sort_len0 (S : Sorts P τ f) {a : Option Addr} {lim : Int} {K : Unit → HP} (hK : K () h) : callT P f.pdq #[.slice a 0 0, .int .i64 0, .int .i64 ((0 : Nat) : Int), .int .i64 lim, cmp] (.tup .nil) K h := by
  refine S.pdq (a0 := ⟨a, 0, 0⟩) (a1 := 0) (a2 := ((0 : Nat) : Int)) (a3 := lim) (a4 := cmp) _ ?_
  unfold G_pdq
  intro X hX
  refine hX _ _ (jn_in fun J2 hJ2 => ?_)
  have e : decide (IntKind.wrap .i64 (((0 : Nat) : Int) - 0) ≤ 12) = true := by decide
  simp only [e, brB_true]
  refine S.ins (a0 := ⟨a, 0, 0⟩) (a1 := 0) (a2 := ((0 : Nat) : Int)) (a3 := cmp) _ ?_
  unfold G_ins
  intro Y hY
  refine hY _ _ ?_
  have e : decide (IntKind.wrap .i64 ((0 : Int) + 1) < ((0 : Nat) : Int)) = false := by decide
  simp only [e, brB_false]
  exact hK

theorem sort_row (S : Sorts P τ f) (hO : SWO lt) {xs : List τ.T} {b : Nat} {rest : List Value} (hb : Blk h b t (xs.map τ.enc ++ rest)) (hlen : xs.length ≤ 1099511627776)
    (hc : ∀ h' x y, Ext [b] h h' → x ∈ xs → y ∈ xs → callF P cmp #[τ.enc x, τ.enc y] (.int .i64) (fun r h'' => ((r : Int) < 0 ↔ lt x y = true) ∧ Ext [] h' h'') h') (K : Unit → HP) {cap : Nat}
    (hK : ∀ (ys : List τ.T) (h' : Heap), ys.Perm xs → ys.Pairwise (fun a b => lt b a = false) → Blk h' b t (ys.map τ.enc ++ rest) → Ext [b] h h' → K () h') :
    callT P f.len #[.int .u64 (IntKind.wrap .u64 (xs.length : Int))] (.int .i64) (fun r0 => callT P f.pdq #[.slice (some ⟨b, 0, none⟩) xs.length cap, .int .i64 (0 : Int), .int .i64 (xs.length : Int), .int .i64 r0, cmp] (.tup .nil) fun _ => K ()) h := by
  rw [wrap_u64 (by omega) (by omega)]
  refine call_of (len_c S (a := xs.length) (by omega)) ?_
  rintro r0 h1 ⟨rfl, l, rfl, hl64, _⟩
  have r : Rw τ b t rest h1 xs.toArray h1 := ⟨by simpa using hb, Ext.refl' _ _⟩
  have hn : xs.toArray.size = xs.length := by simp
  have hM : ∀ i, i < xs.length → xs.toArray[i]! ∈ xs := fun i hi => by simp [hi]
  refine call_of (pdq_c (cap := cap) (M := (· ∈ xs)) S hO hlen (fun h' x y hx hy => hc h' x y hx hy) xs.length (a := 0) (c := xs.length) (by omega) (by omega) (Nat.le_refl _) hl64 r hn hM (.inl rfl)) ?_
  rintro _ h2 ⟨d', p1, p2, r2⟩
  have hsz : d'.size = xs.length := by rw [p1.1]; simp
  have q1 : d'.toList.Perm xs := by
    have := permIn_all_perm (d := xs.toArray) (d' := d') (by simpa using p1)
    simpa using this
  exact hK d'.toList h2 q1 (sorted_pairwise (lt := lt) (d := d') (by rw [hsz]; exact p2)) r2.1 r2.2

theorem sort_c (S : Sorts P τ f) (hO : SWO lt) {xs : List τ.T} {s : Sl} {S1 : List Nat} (p : (osl t τ.enc xs s).P S1 h) (hlen : xs.length ≤ 1099511627776)
    (hc : ∀ h' x y, Ext S1 h h' → x ∈ xs → y ∈ xs → callF P cmp #[τ.enc x, τ.enc y] (.int .i64) (fun r h'' => ((r : Int) < 0 ↔ lt x y = true) ∧ Ext [] h' h'') h') (K : Unit → HP)
    (hK : ∀ (ys : List τ.T) (h' : Heap), ys.Perm xs → ys.Pairwise (fun a b => lt b a = false) → (osl t τ.enc ys s).P S1 h' → Ext S1 h h' → K () h') :
    callT P f.len #[.int .u64 (IntKind.wrap .u64 (s.len : Int))] (.int .i64) (fun r0 => callT P f.pdq #[.slice s.a s.len s.cap, .int .i64 (0 : Int), .int .i64 (s.len : Int), .int .i64 r0, cmp] (.tup .nil) fun _ => K ()) h := by
  rcases p with ⟨b, rest, eS, es, hb⟩ | ⟨eS, ex, e1, e2⟩
  · subst es; subst eS
    exact sort_row S hO hb hlen hc K fun ys h' q1 q2 q3 q4 => hK ys h' q1 q2 (.inl ⟨b, rest, rfl, by simp [q1.length_eq], q3⟩) q4
  · subst ex; subst eS
    obtain ⟨sa, sl, sc⟩ := s
    simp only at e1 e2
    subst e1; subst e2
    have e : IntKind.wrap .u64 ((0 : Nat) : Int) = ((0 : Nat) : Int) := by decide
    rw [e]
    refine call_of (len_c S (a := 0) (by omega)) ?_
    rintro r0 h1 ⟨rfl, l, rfl, hl64, _⟩
    exact sort_len0 S (hK [] h1 (List.Perm.refl _) List.Pairwise.nil (.inr ⟨rfl, rfl, rfl, rfl⟩) (Ext.refl' _ _))

end
end Go.Sx
