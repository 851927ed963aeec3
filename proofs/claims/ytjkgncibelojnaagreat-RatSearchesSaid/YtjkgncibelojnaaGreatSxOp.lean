/-
  Arguments of more kinds, opened: slices of truths, of structs, of slices; structs; arrays. Nothing here names a program.
-/
import Derived.Test.YtjkgncibelojnaaGreatSxT
import Derived.Test.YtjkgncibelojnaaGreatSxG
import Derived.Test.YtjkgncibelojnaaGreatSxN
import Derived.Deep.Slices
import Derived.Test.YtjkgncibelojnaaGreatRaL
import Derived.Test.YtjkgncibelojnaaGreatRows
import Derived.Test.YtjkgncibelojnaaGreatChecked
import Derived.Test.YtjkgncibelojnaaGreatRtS
set_option linter.unusedVariables false
namespace Go.Sx
open Go Go.ChangeShapes Go.WideShapes Go.ChangeAt Go.RowKit

section
variable {H : Type} {enc : TypeId × Value → H} {P : Program} {W : World}

def Reads (H : Type) (enc : TypeId × Value → H) (P : Program) (W : World) (t : TypeId) (cs : List Value) : Prop := ∃ fuel x, DataW.trod enc P W 0 (fun _ => true) true fuel t cs = some x

theorem reads_slice {t e : TypeId} {n : Nat} {cs : List Value} (ht : P.underlying t = some (.slice e)) (hc : P.cellsOf e = n) (h : Reads H enc P W t cs) :
    ∃ s : Sl, cs = [.slice s.a s.len s.cap] ∧ s.len ≤ s.cap ∧ (s.a = none → s.len = 0) ∧
      ∀ a, s.a = some a → ∀ i, i < s.len → ∃ cs', cs'.length = n ∧ (∀ j, j < n → cell W.heap (a.add (i * n + j)) = cs'[j]?) ∧ Reads H enc P W e cs' := by
  obtain ⟨fuel, x, h⟩ := h
  rcases Go.Deep.open_slice ht h with ⟨rfl, _⟩ | ⟨a, len, cap, m, k, D, Pl, rfl, _, hl, _, hm, _, hx⟩
  · exact ⟨⟨none, 0, 0⟩, rfl, Nat.le_refl _, fun _ => rfl, fun a e => by cases e⟩
  · refine ⟨⟨some a, len, cap⟩, rfl, hl, fun e => (by cases e), fun a' e i hi => ?_⟩
    cases e
    simp only [if_true] at hm
    subst hm
    simp only at hi
    obtain ⟨cs', h1, h2⟩ := hx i (by omega)
    rw [hc] at h1
    obtain ⟨_, hlen, hcell⟩ := World.cells?_some h1
    refine ⟨cs', hlen, fun j hj => ?_, k, _, h2⟩
    have := hcell j hj
    rw [← addr_add_add]; exact this

theorem reads_struct {t : TypeId} {fs : Array Field} {cs : List Value} (ht : P.underlying t = some (.struct fs)) (h : Reads H enc P W t cs) :
    cs.length = P.cellsOf t ∧ ∀ (i : Nat) (f : Field), fs[i]? = some f → Reads H enc P W f.type ((cs.drop f.offset).take (P.cellsOf f.type)) := by
  obtain ⟨fuel, x, h⟩ := h
  obtain ⟨xs, n, _, _, hl, hxl, hf⟩ := DataW.trod_struct ht h
  refine ⟨hl, fun i f hi => ?_⟩
  have := hf i f hi
  have hlt : i < fs.size := (Array.getElem?_eq_some_iff.1 hi).1
  rw [List.getElem?_eq_getElem (by omega)] at this
  exact ⟨n, _, this⟩
theorem reads_int {t : TypeId} {k : IntKind} {cs : List Value} (ht : P.underlying t = some (.int k)) (h : Reads H enc P W t cs) : ∃ n, cs = [.int k n] ∧ (Lit.int k n).wf = true := by
  obtain ⟨fuel, x, h⟩ := h
  obtain ⟨n, e, _, w⟩ := DataW.trod_int ht h
  exact ⟨n, e, w⟩
theorem cell_isCells {h : Heap} {a : Addr} {v : Value} (hc : cell h a = some v) : isCells h a.block := by
  unfold cell at hc
  split at hc
  · rename_i c t f hb; exact .inl ⟨c, t, f, hb⟩
  · cases hc
theorem add_block (a : Addr) (i : Nat) : (a.add i).block = a.block := by unfold Addr.add; split <;> rfl

theorem pick_list {α : Type} : ∀ {n : Nat} {Q : Nat → α → Prop}, (∀ i, i < n → ∃ x, Q i x) → ∃ xs : List α, xs.length = n ∧ ∀ i x, xs[i]? = some x → Q i x
  | 0, Q, _ => ⟨[], rfl, fun i x h => by simp at h⟩
  | n + 1, Q, h => by
    obtain ⟨xs, hl, hx⟩ := pick_list (n := n) (Q := Q) fun i hi => h i (by omega)
    obtain ⟨y, hy⟩ := h n (by omega)
    refine ⟨xs ++ [y], by simp [hl], fun i x hi => ?_⟩
    rcases Nat.lt_trichotomy i n with q | q | q
    · rw [List.getElem?_append_left (by omega)] at hi; exact hx i x hi
    · subst q
      rw [List.getElem?_append_right (by omega), hl] at hi
      simp at hi; subst hi; exact hy
    · rw [List.getElem?_eq_none (by simp; omega)] at hi; cases hi

theorem rsn_of_reads {α : Type} {t e : TypeId} {n : Nat} {enc' : α → List Value} {Q : α → Prop} {cs : List Value} (ht : P.underlying t = some (.slice e)) (hc : P.cellsOf e = n) (hn : 0 < n)
    (hel : ∀ cs', Reads H enc P W e cs' → ∃ x : α, cs' = enc' x ∧ Q x) (h : Reads H enc P W t cs) :
    ∃ (s : Sl) (xs : List α), cs = [.slice s.a s.len s.cap] ∧ At W.heap (rsn n enc' xs s) ∧ ∀ x ∈ xs, Q x := by
  obtain ⟨s, rfl, hl, h0, hx⟩ := reads_slice ht hc h
  cases ha : s.a with
  | none =>
    refine ⟨s, [], by rw [ha], ⟨[], by simpa using h0 ha, hl, .inl ⟨rfl, rfl⟩⟩, by simp⟩
  | some a =>
    obtain ⟨xs, hxl, hxs⟩ := pick_list (n := s.len) (Q := fun i x => (∀ j, j < n → cell W.heap (a.add (i * n + j)) = (enc' x)[j]?) ∧ Q x ∧ (enc' x).length = n) fun i hi => by
      obtain ⟨cs', h1, h2, h3⟩ := hx a ha i hi
      obtain ⟨x, rfl, hq⟩ := hel cs' h3
      exact ⟨x, h2, hq, h1⟩
    refine ⟨s, xs, by rw [ha], ?_, fun x hx => ?_⟩
    · by_cases hz : xs = []
      · subst hz
        exact ⟨[], hxl.symm, hl, .inl ⟨rfl, rfl⟩⟩
      · have h1 : ∃ x, xs[0]? = some x := by cases xs with | nil => exact absurd rfl hz | cons x _ => exact ⟨x, rfl⟩
        obtain ⟨x, h1⟩ := h1
        obtain ⟨g1, _, g3⟩ := hxs 0 x h1
        have g := g1 0 hn
        rw [List.getElem?_eq_getElem (by omega)] at g
        have hC := cell_isCells g
        rw [add_block] at hC
        refine ⟨[a.block], hxl.symm, hl, .inr ⟨a, ha, rfl, hC, fun i y hy j v hv => ?_⟩⟩
        obtain ⟨k1, _, k3⟩ := hxs i y hy
        rw [k1 j (by have := (List.getElem?_eq_some_iff.1 hv).1; omega), hv]
    · obtain ⟨i, hi, e⟩ := List.mem_iff_getElem.1 hx
      exact (hxs i x (by rw [List.getElem?_eq_getElem hi, e])).2.1

theorem rsl_of_reads {α : Type} {t e : TypeId} {enc' : α → Value} {Q : α → Prop} {cs : List Value} (ht : P.underlying t = some (.slice e)) (hc : P.cellsOf e = 1)
    (hel : ∀ cs', Reads H enc P W e cs' → ∃ x : α, cs' = [enc' x] ∧ Q x) (h : Reads H enc P W t cs) :
    ∃ (s : Sl) (xs : List α), cs = [.slice s.a s.len s.cap] ∧ At W.heap (rsl enc' xs s) ∧ ∀ x ∈ xs, Q x := by
  obtain ⟨s, xs, e1, ⟨S, h1, h2, h3⟩, h4⟩ := rsn_of_reads (enc' := fun x => [enc' x]) (Q := Q) ht hc (by decide) hel h
  refine ⟨s, xs, e1, ⟨S, h1, h2, h3.imp id fun ⟨a, ea, eS, hC, hx⟩ => ⟨a, ea, eS, hC, fun i x hi => ?_⟩⟩, h4⟩
  have := hx i x hi 0 (enc' x) rfl
  simpa using this

theorem rsl_of_int {t e : TypeId} {k : IntKind} {cs : List Value} (ht : P.underlying t = some (.slice e)) (he : P.underlying e = some (.int k)) (hc : P.cellsOf e = 1) (h : Reads H enc P W t cs) :
    ∃ (s : Sl) (xs : List Int), cs = [.slice s.a s.len s.cap] ∧ At W.heap (rsl (Ty.int k).enc xs s) ∧ ∀ x ∈ xs, (Lit.int k x).wf = true :=
  rsl_of_reads (enc' := (Ty.int k).enc) ht hc (fun cs' h' => reads_int he h') h

theorem reads_arg_sl {t e : TypeId} {base : Nat} {v : Value} {d : DataW H} {p : List MemPlace} (ht : P.underlying t = some (.slice e)) (hval : Value.okWide P W .any base t v)
    (h : DataW.Trod enc P W 0 (fun _ => true) true t v d p) : ∃ s : Sl, v = .slice s.a s.len s.cap ∧ Reads H enc P W t [.slice s.a s.len s.cap] := by
  obtain ⟨a0, len, cap, rfl⟩ := okWide_slice ht hval
  obtain ⟨fuel, hf⟩ := h
  exact ⟨⟨a0, len, cap⟩, rfl, fuel, _, by simpa [Value.cells] using hf⟩

theorem arg_ints {t e : TypeId} {k : IntKind} {base : Nat} {v : Value} {d : DataW H} {p : List MemPlace} (ht : P.underlying t = some (.slice e)) (he : P.underlying e = some (.int k)) (hc : P.cellsOf e = 1)
    (hval : Value.okWide P W .any base t v) (h : DataW.Trod enc P W 0 (fun _ => true) true t v d p) : ∃ (s : Sl) (zs : List Int), v = .slice s.a s.len s.cap ∧ At W.heap (rsl (Ty.int k).enc zs s) ∧ ∀ z ∈ zs, (Lit.int k z).wf = true := by
  obtain ⟨s, rfl, hr⟩ := reads_arg_sl ht hval h
  obtain ⟨s', zs, e, hA, hw⟩ := rsl_of_int ht he hc hr
  simp only [List.cons.injEq, Value.slice.injEq, and_true] at e
  obtain ⟨e1, e2, e3⟩ := e
  have es : s' = s := by cases s; cases s'; simp_all
  subst es
  exact ⟨s', zs, rfl, hA, hw⟩
end
end Go.Sx

set_option linter.unusedVariables false
namespace Go.Proofs.YtjkgncibelojnaaGreat
open Go Go.Sx Go.ChangeShapes Go.WideShapes Go.ChangeAt Go.RowKit Go.Proofs

theorem own_ : ownKnob Tryz.prog.godebug = none := by kernel_rfl
theorem laidOut_ : laidOutB Tryz.prog = true := by kernel_rfl

variable {H : Type} {enc : TypeId × Value → H} {W : World} {base : Nat} {v : Value} {d : DataW H} {p : List MemPlace}

end Go.Proofs.YtjkgncibelojnaaGreat

set_option linter.unusedVariables false
namespace Go.Sx
open Go Go.ChangeShapes Go.WideShapes Go.ChangeAt Go.RowKit
section
variable {H : Type} {enc : TypeId × Value → H} {P : Program} {W : World}
theorem rsp_of_reads {t e t0 t1 e1 : TypeId} {fs : Array Field} {f0 f1 : Field} {cs : List Value} (ht : P.underlying t = some (.slice e)) (hs : P.underlying e = some (.struct fs)) (hc : P.cellsOf e = 2)
    (hf0 : fs[0]? = some f0) (k0 : f0.type = t0) (o0 : f0.offset = 0) (hf1 : fs[1]? = some f1) (k1 : f1.type = t1) (o1 : f1.offset = 1)
    (u0 : P.underlying t0 = some (.int .i64)) (c0 : P.cellsOf t0 = 1) (u1 : P.underlying t1 = some (.slice e1)) (c1 : P.cellsOf t1 = 1) (ue : P.underlying e1 = some (.int .i64)) (ce : P.cellsOf e1 = 1)
    (h : Reads H enc P W t cs) : ∃ (s : Sl) (xs : List (Int × List Int)), cs = [.slice s.a s.len s.cap] ∧ At W.heap (rsp (fun c p => rsl (Ty.int .i64).enc c p) xs s) := by
  obtain ⟨s, ps, e2, hA, hq⟩ := rsn_of_reads (α := tPr.T) (enc' := tPr.vals) (Q := fun x => ∃ zs, At W.heap (rsl (Ty.int .i64).enc zs x.2.1)) ht hc (by decide) (fun cs' h' => by
    obtain ⟨hl, hx⟩ := reads_struct hs h'
    rw [hc] at hl
    match cs', hl with
    | [v0, v1], _ =>
    have r0 := hx 0 f0 hf0
    have r1 := hx 1 f1 hf1
    rw [k0, o0, c0] at r0
    rw [k1, o1, c1] at r1
    have r0 : Reads H enc P W t0 [v0] := r0
    have r1 : Reads H enc P W t1 [v1] := r1
    obtain ⟨n, ev0, _⟩ := reads_int u0 r0
    obtain ⟨s2, zs, ev1, hA2, _⟩ := rsl_of_int u1 ue ce r1
    cases ev0; cases ev1
    exact ⟨(n, s2, ()), rfl, zs, hA2⟩) h
  obtain ⟨xs, hxl, hx⟩ := pick_list (n := ps.length) (Q := fun i (x : Int × List Int) => ∀ hi : i < ps.length, ps[i].1 = x.1 ∧ At W.heap (rsl (Ty.int .i64).enc x.2 ps[i].2.1)) fun i hi => by
    obtain ⟨zs, h1⟩ := hq ps[i] (List.getElem_mem hi)
    exact ⟨(ps[i].1, zs), fun _ => ⟨rfl, h1⟩⟩
  exact ⟨s, xs, e2, rsp_at hxl.symm hA fun i h1 h2 => hx i _ (List.getElem?_eq_getElem h1) h2⟩
end
end Go.Sx
namespace Go.Proofs.YtjkgncibelojnaaGreat
open Go Go.Sx Go.ChangeShapes Go.WideShapes Go.ChangeAt Go.RowKit Go.Proofs

theorem cells3 : Tryz.prog.cellsOf 3 = 1 := by kernel_rfl
theorem cells39 : Tryz.prog.cellsOf 39 = 1 := by kernel_rfl
theorem cells28 : Tryz.prog.cellsOf 28 = 1 := by kernel_rfl
theorem cells42 : Tryz.prog.cellsOf 42 = 2 := by kernel_rfl
variable {H : Type} {enc : TypeId × Value → H} {W : World} {base : Nat} {v : Value} {d : DataW H} {p : List MemPlace}

theorem sl_inj {s s' : Sl} (e : [Value.slice s.a s.len s.cap] = [.slice s'.a s'.len s'.cap]) : s = s' := by
  simp only [List.cons.injEq, Value.slice.injEq, and_true] at e
  obtain ⟨e1, e2, e3⟩ := e
  cases s; cases s'; simp_all
set_option maxRecDepth 100000 in
theorem ents_reads {cs : List Value} (h : Reads H enc Tryz.prog W 25 cs) : ∃ (s : Sl) (xs : List (Int × List Int)), cs = [.slice s.a s.len s.cap] ∧ At W.heap (Go.Proofs.S.ent xs s) :=
  rsp_of_reads (t0 := 3) (t1 := 28) (e1 := 39) Tryz.underlying25 Tryz.underlying42 cells42 rfl rfl rfl rfl rfl rfl Tryz.underlying3 cells3 Tryz.underlying28 cells28 Tryz.underlying39 cells39 h
set_option maxRecDepth 100000 in
theorem arg_ents (hval : Value.okWide Tryz.prog W .any base 25 v) (h : DataW.Trod enc Tryz.prog W 0 (fun _ => true) true 25 v d p) :
    ∃ (s : Sl) (xs : List (Int × List Int)), v = .slice s.a s.len s.cap ∧ At W.heap (Go.Proofs.S.ent xs s) ∧ True := by
  obtain ⟨s, rfl, hr⟩ := reads_arg_sl Tryz.underlying25 hval h
  obtain ⟨s', xs, e, hA⟩ := ents_reads hr
  obtain rfl := sl_inj e
  exact ⟨s, xs, rfl, hA, trivial⟩
set_option maxRecDepth 100000 in
theorem arg_cl28 (hval : Value.okWide Tryz.prog W .any base 28 v) (h : DataW.Trod enc Tryz.prog W 0 (fun _ => true) true 28 v d p) :
    ∃ (s : Sl) (zs : List Int), v = .slice s.a s.len s.cap ∧ At W.heap (rsl (Ty.int .i64).enc zs s) ∧ ∀ z ∈ zs, (Lit.int .i64 z).wf = true :=
  arg_ints Tryz.underlying28 Tryz.underlying39 cells39 hval h
end Go.Proofs.YtjkgncibelojnaaGreat
