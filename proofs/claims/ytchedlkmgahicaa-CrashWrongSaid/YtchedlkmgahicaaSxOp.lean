/-
  Arguments of more kinds, opened: slices of truths, of structs, of slices; structs; arrays. Nothing here names a program.
-/
import Derived.Test.YtchedlkmgahicaaSxEnd
import Derived.Test.YtchedlkmgahicaaSxG
import Derived.Test.YtchedlkmgahicaaSxN
import Derived.Deep.Slices
import Derived.Test.YtchedlkmgahicaaCrG
import Derived.Laws.IdiomArrays
import Derived.Test.YtchedlkmgahicaaRows
import Derived.Test.YtchedlkmgahicaaChecked
set_option linter.unusedVariables false
namespace Go.Sx
open Go Go.ChangeShapes Go.WideShapes Go.ChangeAt Go.RowKit

section
variable {H : Type} {enc : TypeId × Value → H} {P : Program} {W : World}

def Reads (H : Type) (enc : TypeId × Value → H) (P : Program) (W : World) (t : TypeId) (cs : List Value) : Prop := ∃ fuel x, DataW.trod enc P W 0 (fun _ => true) true fuel t cs = some x

theorem reads_slice {t e : TypeId} {n : Nat} {cs : List Value} (ht : P.underlying t = some (.slice e)) (hc : P.cellsOf e = n) (h : Reads H enc P W t cs) :
    ∃ s : Sl, cs = [.slice s.a s.len s.cap] ∧ s.len ≤ s.cap ∧ (s.a = none → s.len = 0) ∧
      ∀ a, s.a = some a → ∀ i, i < s.len → ∃ cs', cs'.length = n ∧ (∀ j, j < n → cell W.heap (a.add (i * n + j)) = cs'[j]?) ∧ Reads H enc P W e cs' := by
  obtain ⟨fuel, x, h⟩ := h
  rcases Go.Deep.open_slice ht h with ⟨rfl, _⟩ | ⟨a, len, cap, m, k, D, Pl, rfl, _, hl, _, hm, _, hx⟩
  · exact ⟨⟨none, 0, 0⟩, rfl, Nat.le_refl _, fun _ => rfl, fun a e => by cases e⟩
  · refine ⟨⟨some a, len, cap⟩, rfl, hl, fun e => (by cases e), fun a' e i hi => ?_⟩
    cases e
    simp only [if_true] at hm
    subst hm
    simp only at hi
    obtain ⟨cs', h1, h2⟩ := hx i (by omega)
    rw [hc] at h1
    obtain ⟨_, hlen, hcell⟩ := World.cells?_some h1
    refine ⟨cs', hlen, fun j hj => ?_, k, _, h2⟩
    have := hcell j hj
    rw [← addr_add_add]; exact this

theorem reads_int {t : TypeId} {k : IntKind} {cs : List Value} (ht : P.underlying t = some (.int k)) (h : Reads H enc P W t cs) : ∃ n, cs = [.int k n] ∧ (Lit.int k n).wf = true := by
  obtain ⟨fuel, x, h⟩ := h
  obtain ⟨n, e, _, w⟩ := DataW.trod_int ht h
  exact ⟨n, e, w⟩
theorem cell_isCells {h : Heap} {a : Addr} {v : Value} (hc : cell h a = some v) : isCells h a.block := by
  unfold cell at hc
  split at hc
  · rename_i c t f hb; exact .inl ⟨c, t, f, hb⟩
  · cases hc
theorem add_block (a : Addr) (i : Nat) : (a.add i).block = a.block := by unfold Addr.add; split <;> rfl

theorem pick_list {α : Type} : ∀ {n : Nat} {Q : Nat → α → Prop}, (∀ i, i < n → ∃ x, Q i x) → ∃ xs : List α, xs.length = n ∧ ∀ i x, xs[i]? = some x → Q i x
  | 0, Q, _ => ⟨[], rfl, fun i x h => by simp at h⟩
  | n + 1, Q, h => by
    obtain ⟨xs, hl, hx⟩ := pick_list (n := n) (Q := Q) fun i hi => h i (by omega)
    obtain ⟨y, hy⟩ := h n (by omega)
    refine ⟨xs ++ [y], by simp [hl], fun i x hi => ?_⟩
    rcases Nat.lt_trichotomy i n with q | q | q
    · rw [List.getElem?_append_left (by omega)] at hi; exact hx i x hi
    · subst q
      rw [List.getElem?_append_right (by omega), hl] at hi
      simp at hi; subst hi; exact hy
    · rw [List.getElem?_eq_none (by simp; omega)] at hi; cases hi

theorem rsn_of_reads {α : Type} {t e : TypeId} {n : Nat} {enc' : α → List Value} {Q : α → Prop} {cs : List Value} (ht : P.underlying t = some (.slice e)) (hc : P.cellsOf e = n) (hn : 0 < n)
    (hel : ∀ cs', Reads H enc P W e cs' → ∃ x : α, cs' = enc' x ∧ Q x) (h : Reads H enc P W t cs) :
    ∃ (s : Sl) (xs : List α), cs = [.slice s.a s.len s.cap] ∧ At W.heap (rsn n enc' xs s) ∧ ∀ x ∈ xs, Q x := by
  obtain ⟨s, rfl, hl, h0, hx⟩ := reads_slice ht hc h
  cases ha : s.a with
  | none =>
    refine ⟨s, [], by rw [ha], ⟨[], by simpa using h0 ha, hl, .inl ⟨rfl, rfl⟩⟩, by simp⟩
  | some a =>
    obtain ⟨xs, hxl, hxs⟩ := pick_list (n := s.len) (Q := fun i x => (∀ j, j < n → cell W.heap (a.add (i * n + j)) = (enc' x)[j]?) ∧ Q x ∧ (enc' x).length = n) fun i hi => by
      obtain ⟨cs', h1, h2, h3⟩ := hx a ha i hi
      obtain ⟨x, rfl, hq⟩ := hel cs' h3
      exact ⟨x, h2, hq, h1⟩
    refine ⟨s, xs, by rw [ha], ?_, fun x hx => ?_⟩
    · by_cases hz : xs = []
      · subst hz
        exact ⟨[], hxl.symm, hl, .inl ⟨rfl, rfl⟩⟩
      · have h1 : ∃ x, xs[0]? = some x := by cases xs with | nil => exact absurd rfl hz | cons x _ => exact ⟨x, rfl⟩
        obtain ⟨x, h1⟩ := h1
        obtain ⟨g1, _, g3⟩ := hxs 0 x h1
        have g := g1 0 hn
        rw [List.getElem?_eq_getElem (by omega)] at g
        have hC := cell_isCells g
        rw [add_block] at hC
        refine ⟨[a.block], hxl.symm, hl, .inr ⟨a, ha, rfl, hC, fun i y hy j v hv => ?_⟩⟩
        obtain ⟨k1, _, k3⟩ := hxs i y hy
        rw [k1 j (by have := (List.getElem?_eq_some_iff.1 hv).1; omega), hv]
    · obtain ⟨i, hi, e⟩ := List.mem_iff_getElem.1 hx
      exact (hxs i x (by rw [List.getElem?_eq_getElem hi, e])).2.1

theorem rsl_of_reads {α : Type} {t e : TypeId} {enc' : α → Value} {Q : α → Prop} {cs : List Value} (ht : P.underlying t = some (.slice e)) (hc : P.cellsOf e = 1)
    (hel : ∀ cs', Reads H enc P W e cs' → ∃ x : α, cs' = [enc' x] ∧ Q x) (h : Reads H enc P W t cs) :
    ∃ (s : Sl) (xs : List α), cs = [.slice s.a s.len s.cap] ∧ At W.heap (rsl enc' xs s) ∧ ∀ x ∈ xs, Q x := by
  obtain ⟨s, xs, e1, ⟨S, h1, h2, h3⟩, h4⟩ := rsn_of_reads (enc' := fun x => [enc' x]) (Q := Q) ht hc (by decide) hel h
  refine ⟨s, xs, e1, ⟨S, h1, h2, h3.imp id fun ⟨a, ea, eS, hC, hx⟩ => ⟨a, ea, eS, hC, fun i x hi => ?_⟩⟩, h4⟩
  have := hx i x hi 0 (enc' x) rfl
  simpa using this

theorem rsl_of_int {t e : TypeId} {k : IntKind} {cs : List Value} (ht : P.underlying t = some (.slice e)) (he : P.underlying e = some (.int k)) (hc : P.cellsOf e = 1) (h : Reads H enc P W t cs) :
    ∃ (s : Sl) (xs : List Int), cs = [.slice s.a s.len s.cap] ∧ At W.heap (rsl (Ty.int k).enc xs s) ∧ ∀ x ∈ xs, (Lit.int k x).wf = true :=
  rsl_of_reads (enc' := (Ty.int k).enc) ht hc (fun cs' h' => reads_int he h') h

theorem reads_arg_sl {t e : TypeId} {base : Nat} {v : Value} {d : DataW H} {p : List MemPlace} (ht : P.underlying t = some (.slice e)) (hval : Value.okWide P W .any base t v)
    (h : DataW.Trod enc P W 0 (fun _ => true) true t v d p) : ∃ s : Sl, v = .slice s.a s.len s.cap ∧ Reads H enc P W t [.slice s.a s.len s.cap] := by
  obtain ⟨a0, len, cap, rfl⟩ := okWide_slice ht hval
  obtain ⟨fuel, hf⟩ := h
  exact ⟨⟨a0, len, cap⟩, rfl, fuel, _, by simpa [Value.cells] using hf⟩

theorem arg_ints {t e : TypeId} {k : IntKind} {base : Nat} {v : Value} {d : DataW H} {p : List MemPlace} (ht : P.underlying t = some (.slice e)) (he : P.underlying e = some (.int k)) (hc : P.cellsOf e = 1)
    (hval : Value.okWide P W .any base t v) (h : DataW.Trod enc P W 0 (fun _ => true) true t v d p) : ∃ (s : Sl) (zs : List Int), v = .slice s.a s.len s.cap ∧ At W.heap (rsl (Ty.int k).enc zs s) ∧ ∀ z ∈ zs, (Lit.int k z).wf = true := by
  obtain ⟨s, rfl, hr⟩ := reads_arg_sl ht hval h
  obtain ⟨s', zs, e, hA, hw⟩ := rsl_of_int ht he hc hr
  simp only [List.cons.injEq, Value.slice.injEq, and_true] at e
  obtain ⟨e1, e2, e3⟩ := e
  have es : s' = s := by cases s; cases s'; simp_all
  subst es
  exact ⟨s', zs, rfl, hA, hw⟩
end
end Go.Sx

set_option linter.unusedVariables false
namespace Go.Proofs.Ytchedlkmgahicaa
open Go Go.Sx

theorem Try.own : ownKnob Try.prog.godebug = none := by kernel_rfl
theorem Try.laidOut : laidOutB Try.prog = true := by kernel_rfl
theorem Try.cells5 : Try.prog.cellsOf 5 = 1 := by kernel_rfl
variable {H : Type} {enc : TypeId × Value → H} {W : World} {base : Nat} {v : Value} {d : DataW H} {p : List MemPlace}

set_option maxRecDepth 100000 in
theorem arg_u8 (hval : Value.okWide Try.prog W .any base 22 v) (h : DataW.Trod enc Try.prog W 0 (fun _ => true) true 22 v d p) :
    ∃ (s : Sl) (zs : List Int), v = .slice s.a s.len s.cap ∧ At W.heap (Go.Proofs.S.lu zs s) ∧ Go.Proofs.S.U8 zs := by
  obtain ⟨s, zs, e, hA, hw⟩ := arg_ints Try.underlying22 Try.underlying5 Try.cells5 hval h
  exact ⟨s, zs, e, hA, fun z hz => by have := wf_u8 (hw z hz); omega⟩

end Go.Proofs.Ytchedlkmgahicaa
