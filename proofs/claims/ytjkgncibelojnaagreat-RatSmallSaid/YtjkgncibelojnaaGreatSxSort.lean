/-
  A slice of one's own is sorted.
-/
import Derived.Test.YtjkgncibelojnaaGreatSxPs
import Derived.Test.YtjkgncibelojnaaGreatSxT
set_option linter.unusedVariables false
namespace Go.Sx
open Go Go.Sort
section
variable {P : Program} {τ : Ty} {f : SF} {t : TypeId} {h : Heap} {lt : τ.T → τ.T → Bool} {cmp : Value}
theorem permIn_all_perm {d d' : Array τ.T} (h : PermIn 0 d.size d d') : d'.toList.Perm d.toList := by
  have := h.2.2
  have e1 : (d'.extract 0 d.size).toList = d'.toList := by rw [← h.1]; simp
  have e2 : (d.extract 0 d.size).toList = d.toList := by simp
  rwa [e1, e2] at this
theorem sorted_pairwise {d : Array τ.T} (h : SortedIn lt 0 d.size d) : d.toList.Pairwise (fun a b => lt b a = false) := by
  rw [List.pairwise_iff_getElem]
  intro i j hi hj hij
  have := h i j (Nat.zero_le _) hij (by simpa using hj)
  simpa [show i < d.size by simpa using hi, show j < d.size by simpa using hj] using this
theorem sort_len0 (S : Sorts P τ f) {a : Option Addr} {lim : Int} {K : Unit → HP} (hK : K () h) : callT P f.pdq #[.slice a 0 0, .int .i64 0, .int .i64 ((0 : Nat) : Int), .int .i64 lim, cmp] (.tup .nil) K h := by
  refine S.pdq (a0 := ⟨a, 0, 0⟩) (a1 := 0) (a2 := ((0 : Nat) : Int)) (a3 := lim) (a4 := cmp) _ ?_
  unfold G_pdq
  intro X hX
  refine hX _ _ (jn_in fun J2 hJ2 => ?_)
  have e : decide (IntKind.wrap .i64 (((0 : Nat) : Int) - 0) ≤ 12) = true := by decide
  simp only [e, brB_true]
  refine S.ins (a0 := ⟨a, 0, 0⟩) (a1 := 0) (a2 := ((0 : Nat) : Int)) (a3 := cmp) _ ?_
  unfold G_ins
  intro Y hY
  refine hY _ _ ?_
  have e : decide (IntKind.wrap .i64 ((0 : Int) + 1) < ((0 : Nat) : Int)) = false := by decide
  simp only [e, brB_false]
  exact hK
theorem sort_row (S : Sorts P τ f) (hO : SWO lt) {xs : List τ.T} {b : Nat} {rest : List Value} (hb : Blk h b t (xs.map τ.enc ++ rest)) (hlen : xs.length ≤ 1099511627776)
    (hc : ∀ h' x y, Ext [b] h h' → x ∈ xs → y ∈ xs → callF P cmp #[τ.enc x, τ.enc y] (.int .i64) (fun r h'' => ((r : Int) < 0 ↔ lt x y = true) ∧ Ext [] h' h'') h') (K : Unit → HP) {cap : Nat}
    (hK : ∀ (ys : List τ.T) (h' : Heap), ys.Perm xs → ys.Pairwise (fun a b => lt b a = false) → Blk h' b t (ys.map τ.enc ++ rest) → Ext [b] h h' → K () h') :
    callT P f.len #[.int .u64 (IntKind.wrap .u64 (xs.length : Int))] (.int .i64) (fun r0 => callT P f.pdq #[.slice (some ⟨b, 0, none⟩) xs.length cap, .int .i64 (0 : Int), .int .i64 (xs.length : Int), .int .i64 r0, cmp] (.tup .nil) fun _ => K ()) h := by
  rw [wrap_u64 (by omega) (by omega)]
  refine call_of (len_c S (a := xs.length) (by omega)) ?_
  rintro r0 h1 ⟨rfl, l, rfl, hl64, _⟩
  have r : Rw τ b t rest h1 xs.toArray h1 := ⟨by simpa using hb, Ext.refl' _ _⟩
  have hn : xs.toArray.size = xs.length := by simp
  have hM : ∀ i, i < xs.length → xs.toArray[i]! ∈ xs := fun i hi => by simp [hi]
  refine call_of (pdq_c (cap := cap) (M := (· ∈ xs)) S hO hlen (fun h' x y hx hy => hc h' x y hx hy) xs.length (a := 0) (c := xs.length) (by omega) (by omega) (Nat.le_refl _) hl64 r hn hM (.inl rfl)) ?_
  rintro _ h2 ⟨d', p1, p2, r2⟩
  have hsz : d'.size = xs.length := by rw [p1.1]; simp
  have q1 : d'.toList.Perm xs := by
    have := permIn_all_perm (d := xs.toArray) (d' := d') (by simpa using p1)
    simpa using this
  exact hK d'.toList h2 q1 (sorted_pairwise (lt := lt) (d := d') (by rw [hsz]; exact p2)) r2.1 r2.2
theorem sort_c (S : Sorts P τ f) (hO : SWO lt) {xs : List τ.T} {s : Sl} {S1 : List Nat} (p : (osl t τ.enc xs s).P S1 h) (hlen : xs.length ≤ 1099511627776)
    (hc : ∀ h' x y, Ext S1 h h' → x ∈ xs → y ∈ xs → callF P cmp #[τ.enc x, τ.enc y] (.int .i64) (fun r h'' => ((r : Int) < 0 ↔ lt x y = true) ∧ Ext [] h' h'') h') (K : Unit → HP)
    (hK : ∀ (ys : List τ.T) (h' : Heap), ys.Perm xs → ys.Pairwise (fun a b => lt b a = false) → (osl t τ.enc ys s).P S1 h' → Ext S1 h h' → K () h') :
    callT P f.len #[.int .u64 (IntKind.wrap .u64 (s.len : Int))] (.int .i64) (fun r0 => callT P f.pdq #[.slice s.a s.len s.cap, .int .i64 (0 : Int), .int .i64 (s.len : Int), .int .i64 r0, cmp] (.tup .nil) fun _ => K ()) h := by
  rcases p with ⟨b, rest, eS, es, hb⟩ | ⟨eS, ex, e1, e2⟩
  · subst es; subst eS
    exact sort_row S hO hb hlen hc K fun ys h' q1 q2 q3 q4 => hK ys h' q1 q2 (.inl ⟨b, rest, rfl, by simp [q1.length_eq], q3⟩) q4
  · subst ex; subst eS
    obtain ⟨sa, sl, sc⟩ := s
    simp only at e1 e2
    subst e1; subst e2
    have e : IntKind.wrap .u64 ((0 : Nat) : Int) = ((0 : Nat) : Int) := by decide
    rw [e]
    refine call_of (len_c S (a := 0) (by omega)) ?_
    rintro r0 h1 ⟨rfl, l, rfl, hl64, _⟩
    exact sort_len0 S (hK [] h1 (List.Perm.refl _) List.Pairwise.nil (.inr ⟨rfl, rfl, rfl, rfl⟩) (Ext.refl' _ _))
theorem Hs.sort {fr : Fr} {G As : List Asn} (S : Sorts P τ f) (hO : SWO lt) {xs : List τ.T} {s : Sl} (st : Hs fr G As h) (k : Nat) (hk : As[k]? = some (osl t τ.enc xs s)) (hlen : xs.length ≤ 1099511627776)
    (hc : ∀ h' x y, (∀ A ∈ G, At h' A) → x ∈ xs → y ∈ xs → callF P cmp #[τ.enc x, τ.enc y] (.int .i64) (fun r h'' => ((r : Int) < 0 ↔ lt x y = true) ∧ Ext [] h' h'') h') (K : Unit → HP)
    (hK : ∀ (ys : List τ.T) (h' : Heap), ys.Perm xs → ys.Pairwise (fun a b => lt b a = false) → Hs fr G (As.set k (osl t τ.enc ys s)) h' → K () h') :
    callT P f.len #[.int .u64 (IntKind.wrap .u64 (s.len : Int))] (.int .i64) (fun r0 => callT P f.pdq #[.slice s.a s.len s.cap, .int .i64 (0 : Int), .int .i64 (s.len : Int), .int .i64 r0, cmp] (.tup .nil) fun _ => K ()) h := by
  obtain ⟨S1, p, hfz, hw⟩ := st.focusG k hk
  exact sort_c S hO p hlen (fun h' x y hx => hc h' x y (hfz h' hx)) K fun ys h' p1 p2 p3 p4 => hK ys h' p1 p2 (hw _ S1 h' p4 p3 fun b hb => .inl hb)
end
end Go.Sx
namespace Go.Sx
open Go
def It {α : Type} (h : Heap) (F : List Nat) (A : List α → List Nat → HP) (G As : List Asn) (pre : List α) (B : List Nat) (h' : Heap) : Prop :=
  A pre B h' ∧ h.size ≤ h'.size ∧ (∀ b ∈ B, b ∉ F) ∧ (∀ b ∈ F, b < h.size) ∧ (∀ b ∈ B, b < h'.size) ∧
    ∃ S, Sep As S h' ∧ (∀ b ∈ S, h.size ≤ b ∧ b ∉ B) ∧ ∀ C ∈ G, ∃ SC, C.P SC h' ∧ ∀ b ∈ SC, b ∈ F
structure Client (P : Program) (τ : Ty) (h : Heap) (Nx : List τ.T → τ.T → Heap → List Nat → Prop) (F : List Nat) (A : List τ.T → List Nat → HP) (D : List Nat → HP) (yl : Value) : Prop where
  stable : ∀ pre B h1 h2 T, A pre B h1 → Ext T h1 h2 → (∀ t ∈ T, t ∉ B ∧ (h.size ≤ t ∨ t ∈ ([] : List Nat))) → A pre B h2
  yields : ∀ pre x B h1 N, Nx pre x h1 N → (∀ b ∈ N, h.size ≤ b ∧ b < h1.size ∧ b ∉ B) → A pre B h1 → CallV P yl (τ.vals x).toArray h1 fun v h2 =>
        ∃ B', FootIn (N ++ B) B' h1 h2 ∧ ExtC (N ++ B) h1 h2 ∧ ((v = .bool true ∧ A (pre ++ [x]) B' h2) ∨ (v = .bool false ∧ D B' h2))
  low : ∀ pre B h1, A pre B h1 → ∀ b ∈ B, b < h1.size
section
variable {P : Program} {τ : Ty} {h : Heap} {Nx : List τ.T → τ.T → Heap → List Nat → Prop} {Nv : List τ.T → τ.T → Prop} {F : List Nat} {A : List τ.T → List Nat → HP} {D : List Nat → HP} {yl : Value} {G As : List Asn} {pre : List τ.T} {B : List Nat} {h' : Heap}
theorem It.open (c : Client P τ h Nx F A D yl) (it : It h F A G As pre B h') : ∃ S, Hs [(S, h')] G As h' ∧ ∀ As2 h2, Hs [(S, h')] G As2 h2 → It h F A G As2 pre B h2 := by
  obtain ⟨hA, hz, hBF, hF, hBl, S, hs, hS, hG⟩ := it
  have hSF : ∀ b ∈ F, b ∉ S := fun b hb hin => by have := hF b hb; have := (hS b hin).1; omega
  refine ⟨S, ⟨S, hs, fun C hC => ?_, fun p hp => ?_⟩, ?_⟩
  · obtain ⟨SC, p, q⟩ := hG C hC
    exact ⟨SC, p, fun b hb hin => hSF b (q b hb) hin⟩
  · simp at hp; subst hp; exact ⟨Ext.refl' _ _, fun b hb => .inl hb⟩
  · rintro As2 h2 ⟨S2, hs2, hz2, hf2⟩
    obtain ⟨x, hS2⟩ := hf2 (S, h') (by simp)
    simp only at x hS2
    have x1 := x.1
    refine ⟨c.stable pre B h' h2 S hA x fun t ht => ⟨(hS t ht).2, .inl (hS t ht).1⟩, by omega, hBF, hF, fun b hb => by have := hBl b hb; omega, S2, hs2, fun b hb => ?_, fun C hC => ?_⟩
    · rcases hS2 b hb with k | k
      · exact hS b k
      · exact ⟨by omega, fun hin => by have := hBl b hin; omega⟩
    · obtain ⟨SC, p, q⟩ := hG C hC
      exact ⟨SC, Asn.ext p x fun b hb hin => hSF b (q b hb) hin, q⟩
theorem It.give (c : Client P τ h Nx F A D yl) (it : It h F A G As pre B h') {x : τ.T} (k : Nat) {C : Asn} (hk : As[k]? = some C) (hx : ∀ N, C.P N h' → Nx pre x h' N) {K : Bool → HP}
    (hT : ∀ B' h2, It h F A G (As.eraseIdx k) (pre ++ [x]) B' h2 → K true h2) (hF : ∀ B' h2, D B' h2 → K false h2) : callF P yl (τ.vals x).toArray .bool K h' := by
  obtain ⟨hA, hz, hBF, hFl, hBl, S, hs, hS, hG⟩ := it
  obtain ⟨N, S2, hm, hd, hC, hr, _⟩ := hs.focus k hk
  have hSN : ∀ b ∈ N, b ∈ S := fun b hb => (hm b).2 (.inl hb)
  have hS2 : ∀ b ∈ S2, b ∈ S := fun b hb => (hm b).2 (.inr hb)
  refine CallV.mono (c.yields pre x B h' N (hx N hC) (fun b hb => ⟨(hS b (hSN b hb)).1, (hs.cel b (hSN b hb)).lt, (hS b (hSN b hb)).2⟩) hA) ?_
  rintro v h2 ⟨B', ⟨f, _⟩, xC, hv⟩
  have hNB : ∀ b ∈ F, b ∉ N ++ B := fun b hb hin => by
    rcases List.mem_append.1 hin with k | k
    · have := hFl b hb; have := (hS b (hSN b k)).1; omega
    · exact hBF b k hb
  have hSB : ∀ b ∈ S2, b ∉ N ++ B := fun b hb hin => by
    rcases List.mem_append.1 hin with k | k
    · exact hd b k hb
    · exact (hS b (hS2 b hb)).2 k
  rcases hv with ⟨rfl, hA'⟩ | ⟨rfl, hD⟩
  · refine ⟨true, rfl, hT B' h2 ⟨hA', by have := xC.1; omega, fun b hb hin => ?_, hFl, c.low _ _ _ hA', S2, hr.keep xC.1 fun b hb => xC.2 b (hr.cel b hb).lt (hSB b hb) (hr.cel b hb), fun b hb => ⟨(hS b (hS2 b hb)).1, fun hin => ?_⟩, fun C hC => ?_⟩⟩
    · rcases f b hb with k | k
      · exact hNB b hin k
      · have := hFl b hin; omega
    · rcases f b hin with k | k
      · exact hSB b hb k
      · have := (hr.cel b hb).lt; omega
    · obtain ⟨SC, p, q⟩ := hG C hC
      exact ⟨SC, C.loc p xC.1 fun b hb => xC.2 b (At.lt p b hb) (hNB b (q b hb)) (C.cel p b hb), q⟩
  · exact ⟨false, rfl, hF B' h2 hD⟩
theorem It.yield (c : Client P τ h (fun pre x _ N => Nv pre x ∧ N = []) F A D yl) (it : It h F A G As pre B h') {x : τ.T} (hx : Nv pre x) {K : Bool → HP}
    (hT : ∀ B' h2, It h F A G As (pre ++ [x]) B' h2 → K true h2) (hF : ∀ B' h2, D B' h2 → K false h2) : callF P yl (τ.vals x).toArray .bool K h' := by
  have it2 : It h F A G (As ++ [emp]) pre B h' := by
    obtain ⟨hA, hz, hBF, hFl, hBl, S, hs, hS, hG⟩ := it
    exact ⟨hA, hz, hBF, hFl, hBl, S ++ [], hs.append ⟨[], [], rfl, by simp, rfl, rfl⟩ (by simp), fun b hb => hS b (by simpa using hb), hG⟩
  refine it2.give c As.length (C := emp) (by simp) (fun N e => ⟨hx, e⟩) (fun B' h2 it => hT B' h2 ?_) hF
  rwa [List.eraseIdx_append_of_length_le (Nat.le_refl _), Nat.sub_self, show ([emp] : List Asn).eraseIdx 0 = [] from rfl, List.append_nil] at it
theorem iter_of {fv : Value} {Fin : List τ.T → Prop} (hG : ∀ C ∈ G, ∃ SC, C.P SC h ∧ ∀ b ∈ SC, b ∈ F) (hF : ∀ b ∈ F, b < h.size)
    (walk : ∀ (A : List τ.T → List Nat → HP) (D : List Nat → HP) (B0 : List Nat) (yl : Value), Client P τ h Nx F A D yl → It h F A G [] [] B0 h →
      ∀ K : Unit → HP, (∀ pre B h2, Fin pre → A pre B h2 → K () h2) → (∀ B h2, D B h2 → K () h2) → callF P fv #[yl] (.tup .nil) K h) :
    IterG P τ fv h Nx Fin F [] := by
  intro A D B0 hB0 sA sD yl _ hy hA
  let A' : List τ.T → List Nat → HP := fun pre B h1 => A pre B h1 ∧ ∀ b ∈ B, b < h1.size
  have key := walk A' (fun B h2 => D B h2) B0 yl ⟨?_, ?_, fun pre B h1 hh => hh.2⟩ ⟨⟨hA, fun b hb => (hB0 b hb).1⟩, Nat.le_refl _, fun b hb => (hB0 b hb).2.1, hF, fun b hb => (hB0 b hb).1, [], rfl, by simp, hG⟩
    (fun _ h2 => ∃ B', (∃ pre, Fin pre ∧ A pre B' h2) ∨ D B' h2) (fun pre B h2 hf hh => ⟨B, .inl ⟨pre, hf, hh.1⟩⟩) (fun B h2 hD => ⟨B, .inr hD⟩)
  · exact CallV.mono key fun v h2 ⟨_, _, r⟩ => r
  · rintro pre B h1 h2 T ⟨ha, hl⟩ x hT
    exact ⟨sA pre B h1 h2 T ha x hT, fun b hb => Nat.lt_of_lt_of_le (hl b hb) x.1⟩
  · rintro pre x B h1 N hx hN ⟨ha, hl⟩
    refine CallV.mono (hy pre x B h1 N hx hN ha) ?_
    rintro v h2 ⟨B', f, xC, hv⟩
    exact ⟨B', f, xC, hv.imp (fun ⟨e, k⟩ => ⟨e, k, fun b hb => (f.2 b hb).elim (fun k => Nat.lt_of_lt_of_le ((List.mem_append.1 k).elim (fun k => (hN b k).2.1) (hl b)) xC.1) id⟩) id⟩
end
end Go.Sx
namespace Go.Sx
open Go
section
variable {P : Program} {τ : Ty} {t : TypeId} {h h' : Heap} {xs ys : List τ.T} {s s2 : Sl}
theorem dlt_t {i n : Nat} (h : i < n) : decide ((i : Int) < (n : Int)) = true := by simp; omega
theorem dlt_f {i n : Nat} (h : ¬ i < n) : decide ((i : Int) < (n : Int)) = false := by simp; omega
theorem inc_i {i : Nat} (h : i < 4611686018427387904) : IntKind.wrap .i64 ((i : Int) + 1) = ((i + 1 : Nat) : Int) := by rw [wrap_i64 (by omega) (by omega)]; omega
def fidx {α : Type} (p : α → Bool) (xs : List α) : Int := match xs.findIdx? p with | some i => (i : Int) | none => -1
theorem fidx_some {α : Type} {p : α → Bool} {xs : List α} {i : Nat} (hi : i < xs.length) (hp : p xs[i] = true) (hn : ∀ j (hj : j < i), p (xs[j]'(by omega)) = false) : fidx p xs = i := by
  have : xs.findIdx? p = some i := List.findIdx?_eq_some_iff_getElem.2 ⟨hi, hp, fun j hj => by simp [hn j hj]⟩
  simp [fidx, this]
theorem fidx_none {α : Type} {p : α → Bool} {xs : List α} (hn : ∀ j (hj : j < xs.length), p xs[j] = false) : fidx p xs = -1 := by
  have : xs.findIdx? p = none := List.findIdx?_eq_none_iff.2 fun x hx => by
    obtain ⟨j, hj, e⟩ := List.mem_iff_getElem.1 hx
    rw [← e]; exact hn j hj
  simp [fidx, this]
theorem fidx_ge {α : Type} (p : α → Bool) (xs : List α) : decide (fidx p xs ≥ 0) = xs.any p := by
  unfold fidx
  cases hh : xs.findIdx? p with
  | none =>
    have := List.findIdx?_eq_none_iff.1 hh
    have : xs.any p = false := by rw [List.any_eq_false]; intro x hx; simp [this x hx]
    rw [this]; decide
  | some i =>
    obtain ⟨hi, hp, _⟩ := List.findIdx?_eq_some_iff_getElem.1 hh
    have : xs.any p = true := List.any_eq_true.2 ⟨_, List.getElem_mem hi, hp⟩
    rw [this]; simp
theorem rdE (hA : At h (rsl τ.enc xs s)) {i : Nat} (hi : i < xs.length) {K : τ.T → HP} (hK : K xs[i] h) : sx s.a s.len (i : Int) 1 (fun p => ldT τ p K) h :=
  rd_ok hA (List.getElem?_eq_getElem hi) hK
def W_index (τ : Ty) (eq : τ.T → Bool) (s : Sl) (K : Int → HP) : HP :=
  lfp (σ := Int × Int × Unit) (fun X0 s1 => brB (decide (s1.1 < (s.len : Int)))
    (sx s.a s.len s1.1 1 fun p2 => ldT τ p2 fun x3 => brB (eq x3) (K s1.1) (X0 ((IntKind.wrap .i64 (s1.1 + (1 : Int))), s1.2.1, ())))
    (K (-1 : Int))) ((0 : Int), (0 : Int), ())
theorem w_index {eq : τ.T → Bool} (hA : At h (rsl τ.enc xs s)) (hl : xs.length ≤ 1099511627776) {K : Int → HP} (hK : K (fidx eq xs) h) : W_index τ eq s K h := by
  have l1 := rsl_len hA
  refine lfp_invh (I := fun m σ h' => ∃ i : Nat, σ = ((i : Int), 0, ()) ∧ i ≤ xs.length ∧ (∀ j (hj : j < xs.length), j < i → eq xs[j] = false) ∧ h' = h ∧ m = xs.length - i) ⟨_, 0, rfl, by omega, fun j _ hj => by omega, rfl, rfl⟩ ?_
  rintro m σ h' X ⟨i, rfl, hi, hp, rfl, em⟩ hX
  by_cases hlt : i < xs.length
  · simp only [l1, dlt_t hlt, brB_true, inc_i (show i < 4611686018427387904 by omega)]
    rw [← l1]
    refine rdE hA hlt ?_
    cases he : eq xs[i] with
    | true =>
      simp only [brB_true]
      rw [fidx_some hlt he (fun j hj => hp j (by omega) hj)] at hK
      exact hK
    | false =>
      simp only [brB_false]
      refine hX _ _ _ ⟨i + 1, rfl, by omega, fun j hj hji => ?_, rfl, rfl⟩ (by omega)
      by_cases ej : j = i
      · subst ej; exact he
      · exact hp j hj (by omega)
  · simp only [l1, dlt_f hlt, brB_false]
    rw [fidx_none (fun j hj => hp j hj (by omega))] at hK
    exact hK
def PredOk (P : Program) (τ : Ty) (fv : Value) (p : τ.T → Bool) (xs : List τ.T) (h : Heap) : Prop :=
  ∀ x ∈ xs, ∀ h', Ext [] h h' → callF P fv #[τ.enc x] .bool (fun r h2 => r = p x ∧ Ext [] h' h2) h'
def W_indexFunc (P : Program) (τ : Ty) (s : Sl) (fv : Value) (K : Int → HP) : HP :=
  lfp (σ := Int × Int × Unit) (fun X0 s1 => brB (decide (s1.1 < (s.len : Int)))
    (sx s.a s.len s1.1 1 fun p2 => ldT τ p2 fun x3 => callF P fv #[τ.enc x3] .bool fun r4 => brB r4 (K s1.1) (X0 ((IntKind.wrap .i64 (s1.1 + (1 : Int))), s1.2.1, ())))
    (K (-1 : Int))) ((0 : Int), (0 : Int), ())
theorem w_indexFunc {fv : Value} {p : τ.T → Bool} (hA : At h (rsl τ.enc xs s)) (hl : xs.length ≤ 1099511627776) (hp : PredOk P τ fv p xs h) {K : Int → HP} (hK : ∀ h', Ext [] h h' → K (fidx p xs) h') : W_indexFunc P τ s fv K h := by
  have l1 := rsl_len hA
  refine lfp_invh (I := fun m σ h' => ∃ i : Nat, σ = ((i : Int), 0, ()) ∧ i ≤ xs.length ∧ (∀ j (hj : j < xs.length), j < i → p xs[j] = false) ∧ Ext [] h h' ∧ m = xs.length - i) ⟨_, 0, rfl, by omega, fun j _ hj => by omega, Ext.refl' _ _, rfl⟩ ?_
  rintro m σ h' X ⟨i, rfl, hi, hpp, x, em⟩ hX
  by_cases hlt : i < xs.length
  · simp only [l1, dlt_t hlt, brB_true, inc_i (show i < 4611686018427387904 by omega)]
    rw [← l1]
    refine rdE (hA.ext x) hlt ?_
    refine callF_of (hp _ (List.getElem_mem hlt) h' x) ?_
    rintro r h2 ⟨rfl, x2⟩
    cases he : p xs[i] with
    | true =>
      simp only [brB_true]
      have := hK h2 (x.nil_trans x2)
      rw [fidx_some hlt he (fun j hj => hpp j (by omega) hj)] at this
      exact this
    | false =>
      simp only [brB_false]
      refine hX _ _ _ ⟨i + 1, rfl, by omega, fun j hj hji => ?_, x.nil_trans x2, rfl⟩ (by omega)
      by_cases ej : j = i
      · subst ej; exact he
      · exact hpp j hj (by omega)
  · simp only [l1, dlt_f hlt, brB_false]
    have := hK h' x
    rw [fidx_none (fun j hj => hpp j hj (by omega))] at this
    exact this
def W_equal (τ : Ty) (ne : τ.T → τ.T → Bool) (s s2 : Sl) (K : Bool → HP) : HP :=
  brB ((s.len : Int) != (s2.len : Int)) (K false)
    (lfp (σ := Int × Bool × Unit) (fun X0 s1 => brB (decide (s1.1 < (s.len : Int)))
      (sx s.a s.len s1.1 1 fun p2 => ldT τ p2 fun x3 => sx s2.a s2.len s1.1 1 fun p4 => ldT τ p4 fun x5 => brB (ne x3 x5) (K false) (X0 ((IntKind.wrap .i64 (s1.1 + (1 : Int))), s1.2.1, ())))
      (K true)) ((0 : Int), false, ()))
theorem w_equal {ne : τ.T → τ.T → Bool} (hne : ∀ x y, ne x y = true ↔ x ≠ y) (hA : At h (rsl τ.enc xs s)) (hB : At h (rsl τ.enc ys s2)) (hl : xs.length ≤ 1099511627776) {K : Bool → HP} (hK : ∀ b : Bool, (b = true ↔ xs = ys) → K b h) : W_equal τ ne s s2 K h := by
  have l1 := rsl_len hA
  have l2 := rsl_len hB
  unfold W_equal
  by_cases hlen : xs.length = ys.length
  · have e : ((s.len : Int) != (s2.len : Int)) = false := by rw [l1, l2, hlen]; simp
    rw [e, brB_false]
    refine lfp_invh (I := fun m σ h' => ∃ i : Nat, σ = ((i : Int), false, ()) ∧ i ≤ xs.length ∧ (∀ j (hj : j < xs.length), j < i → xs[j] = ys[j]'(by omega)) ∧ h' = h ∧ m = xs.length - i) ⟨_, 0, rfl, by omega, fun j _ hj => by omega, rfl, rfl⟩ ?_
    rintro m σ h' X ⟨i, rfl, hi, hp, rfl, em⟩ hX
    by_cases hlt : i < xs.length
    · rw [show decide ((i : Int) < (s.len : Int)) = true by rw [l1]; exact dlt_t hlt, brB_true, inc_i (show i < 4611686018427387904 by omega)]
      refine rdE hA hlt ?_
      refine rdE hB (show i < ys.length by omega) ?_
      cases he : ne xs[i] ys[i] with
      | true =>
        simp only [brB_true]
        refine hK false ⟨fun h => (by cases h), fun e => ?_⟩
        subst e; exact absurd rfl ((hne _ _).1 he)
      | false =>
        simp only [brB_false]
        refine hX _ _ _ ⟨i + 1, rfl, by omega, fun j hj hji => ?_, rfl, rfl⟩ (by omega)
        by_cases ej : j = i
        · subst ej
          exact Classical.not_not.1 fun hh => by rw [(hne _ _).2 hh] at he; cases he
        · exact hp j hj (by omega)
    · rw [show decide ((i : Int) < (s.len : Int)) = false by rw [l1]; exact dlt_f hlt, brB_false]
      exact hK true ⟨fun _ => List.ext_getElem hlen fun j h1 h2 => hp j h1 (by omega), fun _ => rfl⟩
  · have e : ((s.len : Int) != (s2.len : Int)) = true := by rw [l1, l2]; simp; omega
    rw [e, brB_true]
    exact hK false ⟨fun h => (by cases h), fun e => absurd (congrArg List.length e) hlen⟩
theorem fdiv1 (x : Nat) : Int.fdiv (x : Int) (2 ^ (min ((1 : Int)).toNat 64)) = ((x / 2 : Nat) : Int) := by
  have e : (2 : Int) ^ (min ((1 : Int)).toNat 64) = 2 := rfl
  rw [e, Int.fdiv_eq_ediv_of_nonneg _ (by omega)]; rfl
theorem wrapu {x : Int} (h0 : 0 ≤ x) (h1 : x < 18446744073709551616) : IntKind.wrap .u64 x = x := by
  have e : IntKind.wrap .u64 x = x % 18446744073709551616 := by simp [IntKind.wrap, IntKind.bits, IntKind.signed]
  rw [e]; omega
theorem mid_eq {i j : Nat} (hi : i ≤ 1099511627776) (hj : j ≤ 1099511627776) :
    IntKind.wrap .i64 (Int.fdiv (IntKind.wrap .u64 (IntKind.wrap .i64 ((i : Int) + (j : Int)))) (2 ^ (min ((1 : Int)).toNat 64))) = (((i + j) / 2 : Nat) : Int) := by
  have e1 : IntKind.wrap .i64 ((i : Int) + (j : Int)) = ((i + j : Nat) : Int) := by rw [wrap_i64 (by omega) (by omega)]; omega
  rw [e1, wrapu (by omega) (by omega), fdiv1, wrap_i64 (by omega) (by omega)]
end
end Go.Sx
