/-
  An order as one of the things that a walk owns.
-/
import Derived.Test.YtkfdfbgceockpaaOrdL8
import Derived.Test.YtkfdfbgceockpaaSxT
set_option linter.unusedVariables false
namespace Go.Proofs.Ord
open Go Go.Sx Go.Proofs

theorem Rep.norm {h : Heap} {S : List Nat} {o n : Nat} {act : List Int} {step : Int} {L : List Int} (r : Rep h S o n act step L) :
    ∃ S', Rep h S' o n act step L ∧ (∀ b ∈ S', b ∈ S) ∧ ∀ b ∈ S', isCells h b := by
  obtain ⟨ab, hb, pb, H, Pl, rfl, r, c, hp, hl, hn, eL, hlt⟩ := r
  rcases r with ⟨ra, rh, rp, r⟩ | ⟨eH, ra, rp, ha, r⟩
  · refine ⟨_, ⟨ab, hb, pb, H, Pl, rfl, .inl ⟨ra, rh, rp, r⟩, c, hp, hl, hn, eL, hlt⟩, fun b hb => hb, fun b hb' => ?_⟩
    simp at hb'
    rcases hb' with rfl | rfl | rfl | rfl
    · exact r.O.isCells
    · exact r.A.isCells
    · exact r.Hh.isCells
    · exact r.P.isCells
  · refine ⟨_, ⟨ab, o, pb, H, Pl, rfl, .inr ⟨eH, ra, rp, ha, r⟩, c, hp, hl, hn, eL, r.O.lt⟩, fun b hb => ?_, fun b hb' => ?_⟩
    · simp at hb ⊢; rcases hb with rfl | rfl | rfl | rfl <;> simp
    · simp at hb'
      rcases hb' with rfl | rfl | rfl | rfl
      · exact r.O.isCells
      · exact r.A.isCells
      · exact r.O.isCells
      · exact r.P.isCells

def repA (o n : Nat) (act : List Int) (step : Int) (L : List Int) : Asn where
  P := fun S h => Rep h S o n act step L ∧ Lim act step ∧ ∀ b ∈ S, isCells h b
  loc := fun {S h h'} ⟨r, l, c⟩ hz hk => by
    have x : Ext ((List.range h.size).filter fun b => !decide (b ∈ S)) h h' := ⟨hz, fun b hb hn => hk b (by simp at hn; exact hn hb)⟩
    refine ⟨r.ext x (fun b hb hin => by simp at hin; exact hin.2 hb), l, fun b hb => ?_⟩
    obtain ⟨c, t, f, e⟩ := c b hb
    exact ⟨c, t, f, by rw [hk b hb]; exact e⟩
  cel := fun {S h} ⟨_, _, c⟩ b hb => c b hb

section
variable {fr : Fr} {G As : List Asn} {h h' : Heap} {o n : Nat} {act : List Int} {step : Int} {L : List Int}

theorem Hs.rep (st : Hs fr G As h) (k : Nat) (hk : As[k]? = some (repA o n act step L)) : ∃ S, Rep h S o n act step L ∧ Lim act step := let ⟨S, r, l, _⟩ := st.own k hk; ⟨S, r, l⟩

theorem Hs.keepsR {S : List Nat} {act' : List Int} {step' : Int} {L' : List Int}
    (hw : ∀ (A' : Asn) S1' h', Ext S h h' → A'.P S1' h' → (∀ b ∈ S1', b ∈ S ∨ h.size ≤ b) → Hs fr G (As.set n A') h') {o m : Nat} (r : Rep h' S o m act' step' L') (x : Ext S h h') (l : Lim act' step') : Hs fr G (As.set n (repA o m act' step' L')) h' := by
  obtain ⟨S', r', hs, hc⟩ := r.norm
  exact hw _ S' _ x ⟨r', l, hc⟩ fun b hb => .inl (hs b hb)

theorem Hs.bump (st : Hs fr G As h) (k : Nat) (hk : As[k]? = some (repA o n act step L)) (v : Int) (hn : n ≤ 12) {K : Int → HP}
    (hK : ∀ h', Hs fr G (As.set k (repA o n (bumpA act n v step) (bumpS act n v step) (srt (bumpA act n v step) L))) h' → K (if 1 ≤ v ∧ v ≤ n then 0 else 110) h') :
    callT Try.prog fn_order_Order_Bump #[.pointer (pt o), .int .i64 v] (.int .i64) K h := by
  obtain ⟨S, ⟨r, l, c⟩, hw⟩ := st.focus k hk
  refine call_of (bump_c r l v fun _ _ _ => fun h b xs rest lt cmp a b' c => sortsTo12 h b xs rest lt cmp a b' (by omega)) ?_
  rintro x h' ⟨rfl, r', x'⟩
  exact hK _ (Hs.keepsR hw r' x' (l.bump r.len.1 v))

theorem Hs.remove (st : Hs fr G As h) (k : Nat) (hk : As[k]? = some (repA o n act step L)) (v : Int) {K : Int → HP}
    (hK : ∀ h', Hs fr G (As.set k (repA o n act step (L.erase v))) h' → K (if 1 ≤ v ∧ v ≤ n then 0 else 110) h') :
    callT Try.prog fn_order_Order_Remove #[.pointer (pt o), .int .i64 v] (.int .i64) K h := by
  obtain ⟨S, ⟨r, l, c⟩, hw⟩ := st.focus k hk
  refine call_of (remove_c r v) ?_
  rintro x h' ⟨rfl, r', x'⟩
  exact hK _ (Hs.keepsR hw r' x' l)

theorem Hs.pop (st : Hs fr G As h) (k : Nat) (hk : As[k]? = some (repA o n act step L)) {K : (Int × Bool × Unit) → HP}
    (hK : ∀ h', Hs fr G (As.set k (repA o n act step L.tail)) h' → K (L.headD 0, decide (0 < L.length), ()) h') :
    callT Try.prog fn_order_Order_Pop #[.pointer (pt o)] (.tup (.cons (.int .i64) (.cons .bool .nil))) K h := by
  obtain ⟨S, ⟨r, l, c⟩, hw⟩ := st.focus k hk
  refine call_of (pop_c r) ?_
  rintro x h' ⟨rfl, r', x'⟩
  exact hK _ (Hs.keepsR hw r' x' l)

theorem Hs.push (st : Hs fr G As h) (k : Nat) (hk : As[k]? = some (repA o n act step L)) (v : Int) {K : Int → HP}
    (hK : ∀ h', Hs fr G (As.set k (repA o n act step (pushL act n v L))) h' → K (if 1 ≤ v ∧ v ≤ n then 0 else 110) h') :
    callT Try.prog fn_order_Order_Push #[.pointer (pt o), .int .i64 v] (.int .i64) K h := by
  obtain ⟨S, ⟨r, l, c⟩, hw⟩ := st.focus k hk
  refine call_of (push_c r v) ?_
  rintro x h' ⟨rfl, S', r', x', f⟩
  obtain ⟨S2, r2, hs, hc⟩ := r'.norm
  exact hK _ (hw _ S2 _ x' ⟨r2, l, hc⟩ fun b hb => f b (hs b hb))

theorem Hs.decay (st : Hs fr G As h) (k : Nat) (hk : As[k]? = some (repA o n act step L)) {K : Int → HP}
    (hK : ∀ h', Hs fr G (As.set k (repA o n act (if step + step / 16 + 1 ≤ maxA then step + step / 16 + 1 else step) L)) h' → K (if step + step / 16 + 1 ≤ maxA then 0 else 4) h') :
    callT Try.prog fn_order_Order_Decay #[.pointer (pt o)] (.int .i64) K h := by
  obtain ⟨S, ⟨r, l, c⟩, hw⟩ := st.focus k hk
  refine call_of (decayR_c r l) ?_
  rintro x h' hx
  have s1 := l.s1
  rcases hx with ⟨rfl, hg, rfl⟩ | ⟨rfl, hg, r', x'⟩
  · have := hK h' (Hs.keepsR hw (by rw [if_neg (by omega)]; exact r) (Ext.refl _ _) (by rw [if_neg (by omega)]; exact l))
    rwa [if_neg (by omega)] at this
  · have := hK h' (Hs.keepsR hw (by rw [if_pos (by omega)]; exact r') x' (by rw [if_pos (by omega)]; exact ⟨l.lo, l.hi, by omega, by omega⟩))
    rwa [if_pos (by omega)] at this

theorem ISl0.new {h : Heap} {b m : Nat} {xs : List Int} {s : Sl} (hs : ISl0 h b xs s) (hm : m ≤ b) : New m h (osl 3 (.int .i64) xs s) := by
  rcases hs with ⟨rest, rfl, hb⟩ | ⟨rfl, h1, h2⟩
  · exact ⟨[b], .inl ⟨b, rest, rfl, rfl, hb⟩, by simp [hm]⟩
  · exact ⟨[], .inr ⟨rfl, rfl, h1, h2⟩, by simp⟩

theorem osl_ISl0 {h : Heap} {xs : List Int} {s : Sl} (hA : At h (osl 3 (.int .i64) xs s)) : ∃ b, ISl0 h b xs s := by
  obtain ⟨S, p⟩ := hA
  rcases p with ⟨b, rest, _, rfl, hb⟩ | ⟨_, rfl, h1, h2⟩
  · exact ⟨b, .inl ⟨rest, rfl, hb⟩⟩
  · exact ⟨0, .inr ⟨rfl, h1, h2⟩⟩

theorem Hs.list (st : Hs fr G As h) (k : Nat) (hk : As[k]? = some (repA o n act step L)) (hn : n ≤ 5000) {K : (Sl × Bool × Unit) → HP}
    (hK : ∀ s h', Hs fr G (As ++ [osl 3 (.int .i64) L s]) h' → K (s, true, ()) h') :
    callT Try.prog fn_salvorlaw11_list #[.pointer (pt o)] (.tup (.cons .sl (.cons .bool .nil))) K h := by
  obtain ⟨S, r, l⟩ := Hs.rep st k hk
  refine call_of (list_c r hn) ?_
  rintro x h' ⟨s, b, rfl, is, h1, _, x'⟩
  exact hK _ _ (st.new x' (is.new h1))

theorem put_Hs {a : Sl} (st : Hs fr G As h) (hb : Byts h a.a a.len) (hc : a.len ≤ a.cap) {K : (Option Addr × Bool × Unit) → HP}
    (hK : ∀ o act step L h', Hs fr G (As ++ [repA o 12 act step L]) h' → step ≤ 1000000 → (∀ j, g act j ≤ 80000000) → K (pt o, true, ()) h') :
    callT Try.prog fn_salvorlaw11_put #[.slice a.a a.len a.cap] (.tup (.cons .ptr (.cons .bool .nil))) K h := by
  refine call_of (put_lawB hb hc) ?_
  rintro x h' ⟨o, S, act, step, L, rfl, w, h1, h2⟩
  obtain ⟨S', r', hs, hcl⟩ := w.1.norm
  exact hK _ _ _ _ _ (st.new w.2.2.1 ⟨S', ⟨r', w.2.1, hcl⟩, fun b hb => w.2.2.2 b (hs b hb)⟩) h1 h2
end
end Go.Proofs.Ord
