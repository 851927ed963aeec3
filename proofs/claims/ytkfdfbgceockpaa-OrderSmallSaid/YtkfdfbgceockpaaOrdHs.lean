/-
  An order as one of the things that a walk owns.
-/
import Derived.Test.YtkfdfbgceockpaaOrdL8
import Derived.Test.YtkfdfbgceockpaaSxT
set_option linter.unusedVariables false
namespace Go.Proofs.Ord
open Go Go.Sx Go.Proofs

theorem Rep.norm {h : Heap} {S : List Nat} {o n : Nat} {act : List Int} {step : Int} {L : List Int} (r : Rep h S o n act step L) :
    ∃ S', Rep h S' o n act step L ∧ (∀ b ∈ S', b ∈ S) ∧ ∀ b ∈ S', isCells h b := by
  obtain ⟨ab, hb, pb, H, Pl, rfl, r, c, hp, hl, hn, eL, hlt⟩ := r
  rcases r with ⟨ra, rh, rp, r⟩ | ⟨eH, ra, rp, ha, r⟩
  · refine ⟨_, ⟨ab, hb, pb, H, Pl, rfl, .inl ⟨ra, rh, rp, r⟩, c, hp, hl, hn, eL, hlt⟩, fun b hb => hb, fun b hb' => ?_⟩
    simp at hb'
    rcases hb' with rfl | rfl | rfl | rfl
    · exact r.O.isCells
    · exact r.A.isCells
    · exact r.Hh.isCells
    · exact r.P.isCells
  · refine ⟨_, ⟨ab, o, pb, H, Pl, rfl, .inr ⟨eH, ra, rp, ha, r⟩, c, hp, hl, hn, eL, r.O.lt⟩, fun b hb => ?_, fun b hb' => ?_⟩
    · simp at hb ⊢; rcases hb with rfl | rfl | rfl | rfl <;> simp
    · simp at hb'
      rcases hb' with rfl | rfl | rfl | rfl
      · exact r.O.isCells
      · exact r.A.isCells
      · exact r.O.isCells
      · exact r.P.isCells

def repA (o n : Nat) (act : List Int) (step : Int) (L : List Int) : Asn where
  P := fun S h => Rep h S o n act step L ∧ Lim act step ∧ ∀ b ∈ S, isCells h b
  loc := fun {S h h'} ⟨r, l, c⟩ hz hk => by
    have x : Ext ((List.range h.size).filter fun b => !decide (b ∈ S)) h h' := ⟨hz, fun b hb hn => hk b (by simp at hn; exact hn hb)⟩
    refine ⟨r.ext x (fun b hb hin => by simp at hin; exact hin.2 hb), l, fun b hb => ?_⟩
    obtain ⟨c, t, f, e⟩ := c b hb
    exact ⟨c, t, f, by rw [hk b hb]; exact e⟩
  cel := fun {S h} ⟨_, _, c⟩ b hb => c b hb

section
variable {fr : Fr} {G As : List Asn} {h h' : Heap} {o n : Nat} {act : List Int} {step : Int} {L : List Int}

theorem Hs.rep (st : Hs fr G As h) (k : Nat) (hk : As[k]? = some (repA o n act step L)) : ∃ S, Rep h S o n act step L ∧ Lim act step := let ⟨S, r, l, _⟩ := st.own k hk; ⟨S, r, l⟩

theorem Hs.keepsR {S : List Nat} {act' : List Int} {step' : Int} {L' : List Int}
    (hw : ∀ (A' : Asn) S1' h', Ext S h h' → A'.P S1' h' → (∀ b ∈ S1', b ∈ S ∨ h.size ≤ b) → Hs fr G (As.set n A') h') {o m : Nat} (r : Rep h' S o m act' step' L') (x : Ext S h h') (l : Lim act' step') : Hs fr G (As.set n (repA o m act' step' L')) h' := by
  obtain ⟨S', r', hs, hc⟩ := r.norm
  exact hw _ S' _ x ⟨r', l, hc⟩ fun b hb => .inl (hs b hb)

theorem Hs.bump (st : Hs fr G As h) (k : Nat) (hk : As[k]? = some (repA o n act step L)) (v : Int) (hn : n ≤ 12) {K : Int → HP}
    (hK : ∀ h', Hs fr G (As.set k (repA o n (bumpA act n v step) (bumpS act n v step) (srt (bumpA act n v step) L))) h' → K (if 1 ≤ v ∧ v ≤ n then 0 else 110) h') :
    callT Try.prog fn_order_Order_Bump #[.pointer (pt o), .int .i64 v] (.int .i64) K h := by
  obtain ⟨S, ⟨r, l, c⟩, hw⟩ := st.focus k hk
  refine call_of (bump_c r l v fun _ _ _ => fun h b xs rest lt cmp a b' c => sortsTo12 h b xs rest lt cmp a b' (by omega)) ?_
  rintro x h' ⟨rfl, r', x'⟩
  exact hK _ (Hs.keepsR hw r' x' (l.bump r.len.1 v))

theorem Hs.remove (st : Hs fr G As h) (k : Nat) (hk : As[k]? = some (repA o n act step L)) (v : Int) {K : Int → HP}
    (hK : ∀ h', Hs fr G (As.set k (repA o n act step (L.erase v))) h' → K (if 1 ≤ v ∧ v ≤ n then 0 else 110) h') :
    callT Try.prog fn_order_Order_Remove #[.pointer (pt o), .int .i64 v] (.int .i64) K h := by
  obtain ⟨S, ⟨r, l, c⟩, hw⟩ := st.focus k hk
  refine call_of (remove_c r v) ?_
  rintro x h' ⟨rfl, r', x'⟩
  exact hK _ (Hs.keepsR hw r' x' l)

theorem Hs.pop (st : Hs fr G As h) (k : Nat) (hk : As[k]? = some (repA o n act step L)) {K : (Int × Bool × Unit) → HP}
    (hK : ∀ h', Hs fr G (As.set k (repA o n act step L.tail)) h' → K (L.headD 0, decide (0 < L.length), ()) h') :
    callT Try.prog fn_order_Order_Pop #[.pointer (pt o)] (.tup (.cons (.int .i64) (.cons .bool .nil))) K h := by
  obtain ⟨S, ⟨r, l, c⟩, hw⟩ := st.focus k hk
  refine call_of (pop_c r) ?_
  rintro x h' ⟨rfl, r', x'⟩
  exact hK _ (Hs.keepsR hw r' x' l)

theorem Hs.push (st : Hs fr G As h) (k : Nat) (hk : As[k]? = some (repA o n act step L)) (v : Int) {K : Int → HP}
    (hK : ∀ h', Hs fr G (As.set k (repA o n act step (pushL act n v L))) h' → K (if 1 ≤ v ∧ v ≤ n then 0 else 110) h') :
    callT Try.prog fn_order_Order_Push #[.pointer (pt o), .int .i64 v] (.int .i64) K h := by
  obtain ⟨S, ⟨r, l, c⟩, hw⟩ := st.focus k hk
  refine call_of (push_c r v) ?_
  rintro x h' ⟨rfl, S', r', x', f⟩
  obtain ⟨S2, r2, hs, hc⟩ := r'.norm
  exact hK _ (hw _ S2 _ x' ⟨r2, l, hc⟩ fun b hb => f b (hs b hb))

theorem Hs.decay (st : Hs fr G As h) (k : Nat) (hk : As[k]? = some (repA o n act step L)) {K : Int → HP}
    (hK : ∀ h', Hs fr G (As.set k (repA o n act (if step + step / 16 + 1 ≤ maxA then step + step / 16 + 1 else step) L)) h' → K (if step + step / 16 + 1 ≤ maxA then 0 else 4) h') :
    callT Try.prog fn_order_Order_Decay #[.pointer (pt o)] (.int .i64) K h := by
  obtain ⟨S, ⟨r, l, c⟩, hw⟩ := st.focus k hk
  refine call_of (decayR_c r l) ?_
  rintro x h' hx
  have s1 := l.s1
  rcases hx with ⟨rfl, hg, rfl⟩ | ⟨rfl, hg, r', x'⟩
  · have := hK h' (Hs.keepsR hw (by rw [if_neg (by omega)]; exact r) (Ext.refl _ _) (by rw [if_neg (by omega)]; exact l))
    rwa [if_neg (by omega)] at this
  · have := hK h' (Hs.keepsR hw (by rw [if_pos (by omega)]; exact r') x' (by rw [if_pos (by omega)]; exact ⟨l.lo, l.hi, by omega, by omega⟩))
    rwa [if_pos (by omega)] at this

theorem ISl0.new {h : Heap} {b m : Nat} {xs : List Int} {s : Sl} (hs : ISl0 h b xs s) (hm : m ≤ b) : New m h (osl 3 (.int .i64) xs s) := by
  rcases hs with ⟨rest, rfl, hb⟩ | ⟨rfl, h1, h2⟩
  · exact ⟨[b], .inl ⟨b, rest, rfl, rfl, hb⟩, by simp [hm]⟩
  · exact ⟨[], .inr ⟨rfl, rfl, h1, h2⟩, by simp⟩

theorem osl_ISl0 {h : Heap} {xs : List Int} {s : Sl} (hA : At h (osl 3 (.int .i64) xs s)) : ∃ b, ISl0 h b xs s := by
  obtain ⟨S, p⟩ := hA
  rcases p with ⟨b, rest, _, rfl, hb⟩ | ⟨_, rfl, h1, h2⟩
  · exact ⟨b, .inl ⟨rest, rfl, hb⟩⟩
  · exact ⟨0, .inr ⟨rfl, h1, h2⟩⟩

theorem Hs.list (st : Hs fr G As h) (k : Nat) (hk : As[k]? = some (repA o n act step L)) (hn : n ≤ 5000) {K : (Sl × Bool × Unit) → HP}
    (hK : ∀ s h', Hs fr G (As ++ [osl 3 (.int .i64) L s]) h' → K (s, true, ()) h') :
    callT Try.prog fn_salvorlaw11_list #[.pointer (pt o)] (.tup (.cons .sl (.cons .bool .nil))) K h := by
  obtain ⟨S, r, l⟩ := Hs.rep st k hk
  refine call_of (list_c r hn) ?_
  rintro x h' ⟨s, b, rfl, is, h1, _, x'⟩
  exact hK _ _ (st.new x' (is.new h1))

theorem put_Hs {a : Sl} (st : Hs fr G As h) (hb : Byts h a.a a.len) (hc : a.len ≤ a.cap) {K : (Option Addr × Bool × Unit) → HP}
    (hK : ∀ o act step L h', Hs fr G (As ++ [repA o 12 act step L]) h' → step ≤ 1000000 → (∀ j, g act j ≤ 80000000) → K (pt o, true, ()) h') :
    callT Try.prog fn_salvorlaw11_put #[.slice a.a a.len a.cap] (.tup (.cons .ptr (.cons .bool .nil))) K h := by
  refine call_of (put_lawB hb hc) ?_
  rintro x h' ⟨o, S, act, step, L, rfl, w, h1, h2⟩
  obtain ⟨S', r', hs, hcl⟩ := w.1.norm
  exact hK _ _ _ _ _ (st.new w.2.2.1 ⟨S', ⟨r', w.2.1, hcl⟩, fun b hb => w.2.2.2 b (hs b hb)⟩) h1 h2
end
end Go.Proofs.Ord

/-
  A function over which one may range, walked: what its own walk keeps of its client. Nothing here names a program.
-/
set_option linter.unusedVariables false
namespace Go.Sx
open Go

/-- Between two hand-overs: the client's assertion, and what the function owns beside it. -/
def It {α : Type} (h : Heap) (F : List Nat) (A : List α → List Nat → HP) (G As : List Asn) (pre : List α) (B : List Nat) (h' : Heap) : Prop :=
  A pre B h' ∧ h.size ≤ h'.size ∧ (∀ b ∈ B, b ∉ F) ∧ (∀ b ∈ F, b < h.size) ∧ (∀ b ∈ B, b < h'.size) ∧
    ∃ S, Sep As S h' ∧ (∀ b ∈ S, h.size ≤ b ∧ b ∉ B) ∧ ∀ C ∈ G, ∃ SC, C.P SC h' ∧ ∀ b ∈ SC, b ∈ F

/-- What a client asks and gives. -/
structure Client (P : Program) (τ : Ty) (h : Heap) (Nx : List τ.T → τ.T → Heap → List Nat → Prop) (F : List Nat) (A : List τ.T → List Nat → HP) (D : List Nat → HP) (yl : Value) : Prop where
  stable : ∀ pre B h1 h2 T, A pre B h1 → Ext T h1 h2 → (∀ t ∈ T, t ∉ B ∧ (h.size ≤ t ∨ t ∈ ([] : List Nat))) → A pre B h2
  yields : ∀ pre x B h1 N, Nx pre x h1 N → (∀ b ∈ N, h.size ≤ b ∧ b < h1.size ∧ b ∉ B) → A pre B h1 → CallV P yl (τ.vals x).toArray h1 fun v h2 =>
        ∃ B', FootIn (N ++ B) B' h1 h2 ∧ ExtC (N ++ B) h1 h2 ∧ ((v = .bool true ∧ A (pre ++ [x]) B' h2) ∨ (v = .bool false ∧ D B' h2))
  low : ∀ pre B h1, A pre B h1 → ∀ b ∈ B, b < h1.size

section
variable {P : Program} {τ : Ty} {h : Heap} {Nx : List τ.T → τ.T → Heap → List Nat → Prop} {Nv : List τ.T → τ.T → Prop} {F : List Nat} {A : List τ.T → List Nat → HP} {D : List Nat → HP} {yl : Value} {G As : List Asn} {pre : List τ.T} {B : List Nat} {h' : Heap}

/-- The function's own steps. -/
theorem It.open (c : Client P τ h Nx F A D yl) (it : It h F A G As pre B h') : ∃ S, Hs [(S, h')] G As h' ∧ ∀ As2 h2, Hs [(S, h')] G As2 h2 → It h F A G As2 pre B h2 := by
  obtain ⟨hA, hz, hBF, hF, hBl, S, hs, hS, hG⟩ := it
  have hSF : ∀ b ∈ F, b ∉ S := fun b hb hin => by have := hF b hb; have := (hS b hin).1; omega
  refine ⟨S, ⟨S, hs, fun C hC => ?_, fun p hp => ?_⟩, ?_⟩
  · obtain ⟨SC, p, q⟩ := hG C hC
    exact ⟨SC, p, fun b hb hin => hSF b (q b hb) hin⟩
  · simp at hp; subst hp; exact ⟨Ext.refl' _ _, fun b hb => .inl hb⟩
  · rintro As2 h2 ⟨S2, hs2, hz2, hf2⟩
    obtain ⟨x, hS2⟩ := hf2 (S, h') (by simp)
    simp only at x hS2
    have x1 := x.1
    refine ⟨c.stable pre B h' h2 S hA x fun t ht => ⟨(hS t ht).2, .inl (hS t ht).1⟩, by omega, hBF, hF, fun b hb => by have := hBl b hb; omega, S2, hs2, fun b hb => ?_, fun C hC => ?_⟩
    · rcases hS2 b hb with k | k
      · exact hS b k
      · exact ⟨by omega, fun hin => by have := hBl b hin; omega⟩
    · obtain ⟨SC, p, q⟩ := hG C hC
      exact ⟨SC, Asn.ext p x fun b hb hin => hSF b (q b hb) hin, q⟩

/-- A hand-over, and what is given with it. -/
theorem It.give (c : Client P τ h Nx F A D yl) (it : It h F A G As pre B h') {x : τ.T} (k : Nat) {C : Asn} (hk : As[k]? = some C) (hx : ∀ N, C.P N h' → Nx pre x h' N) {K : Bool → HP}
    (hT : ∀ B' h2, It h F A G (As.eraseIdx k) (pre ++ [x]) B' h2 → K true h2) (hF : ∀ B' h2, D B' h2 → K false h2) : callF P yl (τ.vals x).toArray .bool K h' := by
  obtain ⟨hA, hz, hBF, hFl, hBl, S, hs, hS, hG⟩ := it
  obtain ⟨N, S2, hm, hd, hC, hr, _⟩ := hs.focus k hk
  have hSN : ∀ b ∈ N, b ∈ S := fun b hb => (hm b).2 (.inl hb)
  have hS2 : ∀ b ∈ S2, b ∈ S := fun b hb => (hm b).2 (.inr hb)
  refine CallV.mono (c.yields pre x B h' N (hx N hC) (fun b hb => ⟨(hS b (hSN b hb)).1, (hs.cel b (hSN b hb)).lt, (hS b (hSN b hb)).2⟩) hA) ?_
  rintro v h2 ⟨B', ⟨f, _⟩, xC, hv⟩
  have hNB : ∀ b ∈ F, b ∉ N ++ B := fun b hb hin => by
    rcases List.mem_append.1 hin with k | k
    · have := hFl b hb; have := (hS b (hSN b k)).1; omega
    · exact hBF b k hb
  have hSB : ∀ b ∈ S2, b ∉ N ++ B := fun b hb hin => by
    rcases List.mem_append.1 hin with k | k
    · exact hd b k hb
    · exact (hS b (hS2 b hb)).2 k
  rcases hv with ⟨rfl, hA'⟩ | ⟨rfl, hD⟩
  · refine ⟨true, rfl, hT B' h2 ⟨hA', by have := xC.1; omega, fun b hb hin => ?_, hFl, c.low _ _ _ hA', S2, hr.keep xC.1 fun b hb => xC.2 b (hr.cel b hb).lt (hSB b hb) (hr.cel b hb), fun b hb => ⟨(hS b (hS2 b hb)).1, fun hin => ?_⟩, fun C hC => ?_⟩⟩
    · rcases f b hb with k | k
      · exact hNB b hin k
      · have := hFl b hin; omega
    · rcases f b hin with k | k
      · exact hSB b hb k
      · have := (hr.cel b hb).lt; omega
    · obtain ⟨SC, p, q⟩ := hG C hC
      exact ⟨SC, C.loc p xC.1 fun b hb => xC.2 b (At.lt p b hb) (hNB b (q b hb)) (C.cel p b hb), q⟩
  · exact ⟨false, rfl, hF B' h2 hD⟩

/-- A hand-over of a value alone. -/
theorem It.yield (c : Client P τ h (fun pre x _ N => Nv pre x ∧ N = []) F A D yl) (it : It h F A G As pre B h') {x : τ.T} (hx : Nv pre x) {K : Bool → HP}
    (hT : ∀ B' h2, It h F A G As (pre ++ [x]) B' h2 → K true h2) (hF : ∀ B' h2, D B' h2 → K false h2) : callF P yl (τ.vals x).toArray .bool K h' := by
  have it2 : It h F A G (As ++ [emp]) pre B h' := by
    obtain ⟨hA, hz, hBF, hFl, hBl, S, hs, hS, hG⟩ := it
    exact ⟨hA, hz, hBF, hFl, hBl, S ++ [], hs.append ⟨[], [], rfl, by simp, rfl, rfl⟩ (by simp), fun b hb => hS b (by simpa using hb), hG⟩
  refine it2.give c As.length (C := emp) (by simp) (fun N e => ⟨hx, e⟩) (fun B' h2 it => hT B' h2 ?_) hF
  rwa [List.eraseIdx_append_of_length_le (Nat.le_refl _), Nat.sub_self, show ([emp] : List Asn).eraseIdx 0 = [] from rfl, List.append_nil] at it

/-- The function's contract, from its walk. -/
theorem iter_of {fv : Value} {Fin : List τ.T → Prop} (hG : ∀ C ∈ G, ∃ SC, C.P SC h ∧ ∀ b ∈ SC, b ∈ F) (hF : ∀ b ∈ F, b < h.size)
    (walk : ∀ (A : List τ.T → List Nat → HP) (D : List Nat → HP) (B0 : List Nat) (yl : Value), Client P τ h Nx F A D yl → It h F A G [] [] B0 h →
      ∀ K : Unit → HP, (∀ pre B h2, Fin pre → A pre B h2 → K () h2) → (∀ B h2, D B h2 → K () h2) → callF P fv #[yl] (.tup .nil) K h) :
    IterG P τ fv h Nx Fin F [] := by
  intro A D B0 hB0 sA sD yl hy hA
  let A' : List τ.T → List Nat → HP := fun pre B h1 => A pre B h1 ∧ ∀ b ∈ B, b < h1.size
  have key := walk A' (fun B h2 => D B h2) B0 yl ⟨?_, ?_, fun pre B h1 hh => hh.2⟩ ⟨⟨hA, fun b hb => (hB0 b hb).1⟩, Nat.le_refl _, fun b hb => (hB0 b hb).2.1, hF, fun b hb => (hB0 b hb).1, [], rfl, by simp, hG⟩
    (fun _ h2 => ∃ B', (∃ pre, Fin pre ∧ A pre B' h2) ∨ D B' h2) (fun pre B h2 hf hh => ⟨B, .inl ⟨pre, hf, hh.1⟩⟩) (fun B h2 hD => ⟨B, .inr hD⟩)
  · exact CallV.mono key fun v h2 ⟨_, _, r⟩ => r
  · rintro pre B h1 h2 T ⟨ha, hl⟩ x hT
    exact ⟨sA pre B h1 h2 T ha x hT, fun b hb => Nat.lt_of_lt_of_le (hl b hb) x.1⟩
  · rintro pre x B h1 N hx hN ⟨ha, hl⟩
    refine CallV.mono (hy pre x B h1 N hx hN ha) ?_
    rintro v h2 ⟨B', f, xC, hv⟩
    exact ⟨B', f, xC, hv.imp (fun ⟨e, k⟩ => ⟨e, k, fun b hb => (f.2 b hb).elim (fun k => Nat.lt_of_lt_of_le ((List.mem_append.1 k).elim (fun k => (hN b k).2.1) (hl b)) xC.1) id⟩) id⟩

end
end Go.Sx
