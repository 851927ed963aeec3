/-
  Arguments of more kinds, opened: slices of truths, of structs, of slices; structs; arrays. Nothing here names a program.
-/
import Derived.Test.YtfadkgkkbbcekaaSxT
import Derived.Test.YtfadkgkkbbcekaaClT
import Derived.Test.YtfadkgkkbbcekaaCrQ
import Derived.Deep.Slices
import Derived.Test.YtfadkgkkbbcekaaFoL
import Derived.Test.YtfadkgkkbbcekaaRows
import Derived.Test.YtfadkgkkbbcekaaChecked
import Derived.JoinedCond
set_option linter.unusedVariables false
namespace Go.Sx
open Go Go.ChangeShapes Go.WideShapes Go.ChangeAt Go.RowKit

section
variable {H : Type} {enc : TypeId × Value → H} {P : Program} {W : World}

def Reads (H : Type) (enc : TypeId × Value → H) (P : Program) (W : World) (t : TypeId) (cs : List Value) : Prop := ∃ fuel x, DataW.trod enc P W 0 (fun _ => true) true fuel t cs = some x

theorem reads_slice {t e : TypeId} {n : Nat} {cs : List Value} (ht : P.underlying t = some (.slice e)) (hc : P.cellsOf e = n) (h : Reads H enc P W t cs) :
    ∃ s : Sl, cs = [.slice s.a s.len s.cap] ∧ s.len ≤ s.cap ∧ (s.a = none → s.len = 0) ∧
      ∀ a, s.a = some a → ∀ i, i < s.len → ∃ cs', cs'.length = n ∧ (∀ j, j < n → cell W.heap (a.add (i * n + j)) = cs'[j]?) ∧ Reads H enc P W e cs' := by
  obtain ⟨fuel, x, h⟩ := h
  rcases Go.Deep.open_slice ht h with ⟨rfl, _⟩ | ⟨a, len, cap, m, k, D, Pl, rfl, _, hl, _, hm, _, hx⟩
  · exact ⟨⟨none, 0, 0⟩, rfl, Nat.le_refl _, fun _ => rfl, fun a e => by cases e⟩
  · refine ⟨⟨some a, len, cap⟩, rfl, hl, fun e => (by cases e), fun a' e i hi => ?_⟩
    cases e
    simp only [if_true] at hm
    subst hm
    simp only at hi
    obtain ⟨cs', h1, h2⟩ := hx i (by omega)
    rw [hc] at h1
    obtain ⟨_, hlen, hcell⟩ := World.cells?_some h1
    refine ⟨cs', hlen, fun j hj => ?_, k, _, h2⟩
    have := hcell j hj
    rw [← addr_add_add]; exact this

theorem reads_int {t : TypeId} {k : IntKind} {cs : List Value} (ht : P.underlying t = some (.int k)) (h : Reads H enc P W t cs) : ∃ n, cs = [.int k n] ∧ (Lit.int k n).wf = true := by
  obtain ⟨fuel, x, h⟩ := h
  obtain ⟨n, e, _, w⟩ := DataW.trod_int ht h
  exact ⟨n, e, w⟩
theorem cell_isCells {h : Heap} {a : Addr} {v : Value} (hc : cell h a = some v) : isCells h a.block := by
  unfold cell at hc
  split at hc
  · rename_i c t f hb; exact .inl ⟨c, t, f, hb⟩
  · cases hc
theorem add_block (a : Addr) (i : Nat) : (a.add i).block = a.block := by unfold Addr.add; split <;> rfl

theorem pick_list {α : Type} : ∀ {n : Nat} {Q : Nat → α → Prop}, (∀ i, i < n → ∃ x, Q i x) → ∃ xs : List α, xs.length = n ∧ ∀ i x, xs[i]? = some x → Q i x
  | 0, Q, _ => ⟨[], rfl, fun i x h => by simp at h⟩
  | n + 1, Q, h => by
    obtain ⟨xs, hl, hx⟩ := pick_list (n := n) (Q := Q) fun i hi => h i (by omega)
    obtain ⟨y, hy⟩ := h n (by omega)
    refine ⟨xs ++ [y], by simp [hl], fun i x hi => ?_⟩
    rcases Nat.lt_trichotomy i n with q | q | q
    · rw [List.getElem?_append_left (by omega)] at hi; exact hx i x hi
    · subst q
      rw [List.getElem?_append_right (by omega), hl] at hi
      simp at hi; subst hi; exact hy
    · rw [List.getElem?_eq_none (by simp; omega)] at hi; cases hi

theorem rsn_of_reads {α : Type} {t e : TypeId} {n : Nat} {enc' : α → List Value} {Q : α → Prop} {cs : List Value} (ht : P.underlying t = some (.slice e)) (hc : P.cellsOf e = n) (hn : 0 < n)
    (hel : ∀ cs', Reads H enc P W e cs' → ∃ x : α, cs' = enc' x ∧ Q x) (h : Reads H enc P W t cs) :
    ∃ (s : Sl) (xs : List α), cs = [.slice s.a s.len s.cap] ∧ At W.heap (rsn n enc' xs s) ∧ ∀ x ∈ xs, Q x := by
  obtain ⟨s, rfl, hl, h0, hx⟩ := reads_slice ht hc h
  cases ha : s.a with
  | none =>
    refine ⟨s, [], by rw [ha], ⟨[], by simpa using h0 ha, hl, .inl ⟨rfl, rfl⟩⟩, by simp⟩
  | some a =>
    obtain ⟨xs, hxl, hxs⟩ := pick_list (n := s.len) (Q := fun i x => (∀ j, j < n → cell W.heap (a.add (i * n + j)) = (enc' x)[j]?) ∧ Q x ∧ (enc' x).length = n) fun i hi => by
      obtain ⟨cs', h1, h2, h3⟩ := hx a ha i hi
      obtain ⟨x, rfl, hq⟩ := hel cs' h3
      exact ⟨x, h2, hq, h1⟩
    refine ⟨s, xs, by rw [ha], ?_, fun x hx => ?_⟩
    · by_cases hz : xs = []
      · subst hz
        exact ⟨[], hxl.symm, hl, .inl ⟨rfl, rfl⟩⟩
      · have h1 : ∃ x, xs[0]? = some x := by cases xs with | nil => exact absurd rfl hz | cons x _ => exact ⟨x, rfl⟩
        obtain ⟨x, h1⟩ := h1
        obtain ⟨g1, _, g3⟩ := hxs 0 x h1
        have g := g1 0 hn
        rw [List.getElem?_eq_getElem (by omega)] at g
        have hC := cell_isCells g
        rw [add_block] at hC
        refine ⟨[a.block], hxl.symm, hl, .inr ⟨a, ha, rfl, hC, fun i y hy j v hv => ?_⟩⟩
        obtain ⟨k1, _, k3⟩ := hxs i y hy
        rw [k1 j (by have := (List.getElem?_eq_some_iff.1 hv).1; omega), hv]
    · obtain ⟨i, hi, e⟩ := List.mem_iff_getElem.1 hx
      exact (hxs i x (by rw [List.getElem?_eq_getElem hi, e])).2.1

theorem rsl_of_reads {α : Type} {t e : TypeId} {enc' : α → Value} {Q : α → Prop} {cs : List Value} (ht : P.underlying t = some (.slice e)) (hc : P.cellsOf e = 1)
    (hel : ∀ cs', Reads H enc P W e cs' → ∃ x : α, cs' = [enc' x] ∧ Q x) (h : Reads H enc P W t cs) :
    ∃ (s : Sl) (xs : List α), cs = [.slice s.a s.len s.cap] ∧ At W.heap (rsl enc' xs s) ∧ ∀ x ∈ xs, Q x := by
  obtain ⟨s, xs, e1, ⟨S, h1, h2, h3⟩, h4⟩ := rsn_of_reads (enc' := fun x => [enc' x]) (Q := Q) ht hc (by decide) hel h
  refine ⟨s, xs, e1, ⟨S, h1, h2, h3.imp id fun ⟨a, ea, eS, hC, hx⟩ => ⟨a, ea, eS, hC, fun i x hi => ?_⟩⟩, h4⟩
  have := hx i x hi 0 (enc' x) rfl
  simpa using this

theorem rsl_of_int {t e : TypeId} {k : IntKind} {cs : List Value} (ht : P.underlying t = some (.slice e)) (he : P.underlying e = some (.int k)) (hc : P.cellsOf e = 1) (h : Reads H enc P W t cs) :
    ∃ (s : Sl) (xs : List Int), cs = [.slice s.a s.len s.cap] ∧ At W.heap (rsl (Ty.int k).enc xs s) ∧ ∀ x ∈ xs, (Lit.int k x).wf = true :=
  rsl_of_reads (enc' := (Ty.int k).enc) ht hc (fun cs' h' => reads_int he h') h

theorem reads_arg_sl {t e : TypeId} {base : Nat} {v : Value} {d : DataW H} {p : List MemPlace} (ht : P.underlying t = some (.slice e)) (hval : Value.okWide P W .any base t v)
    (h : DataW.Trod enc P W 0 (fun _ => true) true t v d p) : ∃ s : Sl, v = .slice s.a s.len s.cap ∧ Reads H enc P W t [.slice s.a s.len s.cap] := by
  obtain ⟨a0, len, cap, rfl⟩ := okWide_slice ht hval
  obtain ⟨fuel, hf⟩ := h
  exact ⟨⟨a0, len, cap⟩, rfl, fuel, _, by simpa [Value.cells] using hf⟩

theorem arg_ints {t e : TypeId} {k : IntKind} {base : Nat} {v : Value} {d : DataW H} {p : List MemPlace} (ht : P.underlying t = some (.slice e)) (he : P.underlying e = some (.int k)) (hc : P.cellsOf e = 1)
    (hval : Value.okWide P W .any base t v) (h : DataW.Trod enc P W 0 (fun _ => true) true t v d p) : ∃ (s : Sl) (zs : List Int), v = .slice s.a s.len s.cap ∧ At W.heap (rsl (Ty.int k).enc zs s) ∧ ∀ z ∈ zs, (Lit.int k z).wf = true := by
  obtain ⟨s, rfl, hr⟩ := reads_arg_sl ht hval h
  obtain ⟨s', zs, e, hA, hw⟩ := rsl_of_int ht he hc hr
  simp only [List.cons.injEq, Value.slice.injEq, and_true] at e
  obtain ⟨e1, e2, e3⟩ := e
  have es : s' = s := by cases s; cases s'; simp_all
  subst es
  exact ⟨s', zs, rfl, hA, hw⟩
end
end Go.Sx

set_option linter.unusedVariables false
namespace Go.Proofs.Ytfadkgkkbbcekaa
open Go Go.Sx

theorem own_ : ownKnob Try.prog.godebug = none := by kernel_rfl
theorem laidOut_ : laidOutB Try.prog = true := by kernel_rfl
theorem cells3_ : Try.prog.cellsOf 3 = 1 := by kernel_rfl
variable {H : Type} {enc : TypeId × Value → H} {W : World} {base : Nat} {v : Value} {d : DataW H} {p : List MemPlace}

set_option maxRecDepth 100000 in
theorem arg_is (hval : Value.okWide Try.prog W .any base 25 v) (h : DataW.Trod enc Try.prog W 0 (fun _ => true) true 25 v d p) :
    ∃ (s : Sl) (zs : List Int), v = .slice s.a s.len s.cap ∧ At W.heap (Go.Proofs.S.li zs s) ∧ ∀ z ∈ zs, (Lit.int .i64 z).wf = true := by
  obtain ⟨s, zs, e, hA, hw⟩ := arg_ints Try.underlying25 Try.underlying3 cells3_ hval h
  exact ⟨s, zs, e, hA, hw⟩
end Go.Proofs.Ytfadkgkkbbcekaa

set_option linter.unusedVariables false
set_option linter.unusedSimpArgs false
namespace Go.Sx
open Go Go.ChangeShapes Go.WideShapes Go.ChangeAt Go.RowKit

variable {H : Type} {enc : TypeId × Value → H} {P : Program} {W : World} {Q : Type}

structure BulkOk (β : DataW H → Nat) : Prop where
  pos : ∀ d, 1 ≤ β d
  slice : ∀ es sp, (es.map β).sum + 1 ≤ β (.slice es sp)
  part : ∀ ps, ∀ p ∈ ps, β p ≤ β (.agg ps)

theorem le_sum_map {α : Type} {f : α → Nat} : ∀ {l : List α} {x : α}, x ∈ l → f x ≤ (l.map f).sum
  | y :: l, x, h => by
    rcases List.mem_cons.1 h with rfl | h
    · simp
    · have := le_sum_map (f := f) h; simp; omega
theorem len_sum_map {α : Type} {f : α → Nat} (hf : ∀ x, 1 ≤ f x) : ∀ l : List α, l.length ≤ (l.map f).sum
  | [] => by simp
  | x :: l => by have := len_sum_map hf l; have := hf x; simp; omega

def ReadsB (H : Type) (enc : TypeId × Value → H) (β : DataW H → Nat) (N : Nat) (P : Program) (W : World) (t : TypeId) (cs : List Value) : Prop := ∃ fuel x, DataW.trod enc P W 0 (fun _ => true) true fuel t cs = some x ∧ β x.1 ≤ N

variable {β : DataW H → Nat} {N : Nat}
theorem ReadsB.reads {t : TypeId} {cs : List Value} (h : ReadsB H enc β N P W t cs) : Reads H enc P W t cs := let ⟨f, x, h, _⟩ := h; ⟨f, x, h⟩

theorem readsB_slice (hb : BulkOk β) {t e : TypeId} {n : Nat} {cs : List Value} (ht : P.underlying t = some (.slice e)) (hc : P.cellsOf e = n) (h : ReadsB H enc β N P W t cs) :
    ∃ s : Sl, cs = [.slice s.a s.len s.cap] ∧ s.len ≤ s.cap ∧ s.len ≤ N ∧ (s.a = none → s.len = 0) ∧
      ∀ a, s.a = some a → ∀ i, i < s.len → ∃ cs', cs'.length = n ∧ (∀ j, j < n → cell W.heap (a.add (i * n + j)) = cs'[j]?) ∧ ReadsB H enc β N P W e cs' := by
  obtain ⟨fuel, x, h, hN⟩ := h
  rcases Go.Deep.open_slice ht h with ⟨rfl, _⟩ | ⟨a, len, cap, m, k, D, Pl, rfl, _, hl, _, hm, rfl, hx⟩
  · exact ⟨⟨none, 0, 0⟩, rfl, Nat.le_refl _, Nat.zero_le _, fun _ => rfl, fun a e => by cases e⟩
  · simp only at hN
    have h1 := hb.slice ((List.range len).map D) ((List.range (m - len)).map fun j => D (len + j))
    have h2 := len_sum_map hb.pos ((List.range len).map D)
    rw [List.length_map, List.length_range] at h2
    refine ⟨⟨some a, len, cap⟩, rfl, hl, by show len ≤ N; omega, fun e => (by cases e), fun a' e i hi => ?_⟩
    cases e
    simp only [if_true] at hm
    subst hm
    simp only at hi
    obtain ⟨cs', h3, h4⟩ := hx i (by omega)
    rw [hc] at h3
    obtain ⟨_, hlen, hcell⟩ := World.cells?_some h3
    refine ⟨cs', hlen, fun j hj => ?_, k, _, h4, ?_⟩
    · have := hcell j hj
      rw [← addr_add_add]; exact this
    · have := le_sum_map (f := β) (l := (List.range len).map D) (x := D i) (List.mem_map.2 ⟨i, List.mem_range.2 hi, rfl⟩)
      simp only
      omega

theorem readsB_struct (hb : BulkOk β) {t : TypeId} {fs : Array Field} {cs : List Value} (ht : P.underlying t = some (.struct fs)) (h : ReadsB H enc β N P W t cs) :
    cs.length = P.cellsOf t ∧ ∀ (i : Nat) (f : Field), fs[i]? = some f → ReadsB H enc β N P W f.type ((cs.drop f.offset).take (P.cellsOf f.type)) := by
  obtain ⟨fuel, x, h, hN⟩ := h
  obtain ⟨xs, n, _, hx, hl, hxl, hf⟩ := DataW.trod_struct ht h
  refine ⟨hl, fun i f hi => ?_⟩
  have := hf i f hi
  have hlt : i < fs.size := (Array.getElem?_eq_some_iff.1 hi).1
  rw [List.getElem?_eq_getElem (by omega)] at this
  refine ⟨n, _, this, ?_⟩
  subst hx
  simp only at hN
  exact Nat.le_trans (hb.part _ _ (List.mem_map.2 ⟨_, List.getElem_mem (by omega), rfl⟩)) hN

theorem rsn_of_R {R : List Value → Prop} {α : Type} {n : Nat} {enc' : α → List Value} {Q : α → Prop} (hn : 0 < n) {s : Sl} (hl : s.len ≤ s.cap) (h0 : s.a = none → s.len = 0)
    (hx : ∀ a, s.a = some a → ∀ i, i < s.len → ∃ cs', cs'.length = n ∧ (∀ j, j < n → cell W.heap (a.add (i * n + j)) = cs'[j]?) ∧ R cs') (hel : ∀ cs', R cs' → ∃ x : α, cs' = enc' x ∧ Q x) :
    ∃ xs : List α, At W.heap (rsn n enc' xs s) ∧ ∀ x ∈ xs, Q x := by
  cases ha : s.a with
  | none => exact ⟨[], ⟨[], by simpa using h0 ha, hl, .inl ⟨rfl, rfl⟩⟩, by simp⟩
  | some a =>
    obtain ⟨xs, hxl, hxs⟩ := pick_list (n := s.len) (Q := fun i x => (∀ j, j < n → cell W.heap (a.add (i * n + j)) = (enc' x)[j]?) ∧ Q x ∧ (enc' x).length = n) fun i hi => by
      obtain ⟨cs', h1, h2, h3⟩ := hx a ha i hi
      obtain ⟨x, rfl, hq⟩ := hel cs' h3
      exact ⟨x, h2, hq, h1⟩
    refine ⟨xs, ?_, fun x hx => ?_⟩
    · by_cases hz : xs = []
      · subst hz
        exact ⟨[], hxl.symm, hl, .inl ⟨rfl, rfl⟩⟩
      · have h1 : ∃ x, xs[0]? = some x := by cases xs with | nil => exact absurd rfl hz | cons x _ => exact ⟨x, rfl⟩
        obtain ⟨x, h1⟩ := h1
        obtain ⟨g1, _, g3⟩ := hxs 0 x h1
        have g := g1 0 hn
        rw [List.getElem?_eq_getElem (by omega)] at g
        have hC := cell_isCells g
        rw [add_block] at hC
        refine ⟨[a.block], hxl.symm, hl, .inr ⟨a, ha, rfl, hC, fun i y hy j v hv => ?_⟩⟩
        obtain ⟨k1, _, k3⟩ := hxs i y hy
        rw [k1 j (by have := (List.getElem?_eq_some_iff.1 hv).1; omega), hv]
    · obtain ⟨i, hi, e⟩ := List.mem_iff_getElem.1 hx
      exact (hxs i x (by rw [List.getElem?_eq_getElem hi, e])).2.1
theorem rslB {α : Type} {t e : TypeId} {enc' : α → Value} {Q : α → Prop} {cs : List Value} (hb : BulkOk β) (ht : P.underlying t = some (.slice e)) (hc : P.cellsOf e = 1)
    (hel : ∀ cs', ReadsB H enc β N P W e cs' → ∃ x : α, cs' = [enc' x] ∧ Q x) (h : ReadsB H enc β N P W t cs) :
    ∃ (s : Sl) (xs : List α), cs = [.slice s.a s.len s.cap] ∧ At W.heap (rsl enc' xs s) ∧ xs.length ≤ N ∧ ∀ x ∈ xs, Q x := by
  obtain ⟨s, rfl, hl, hN, h0, hx⟩ := readsB_slice hb ht hc h
  obtain ⟨xs, hA, hq⟩ := rsn_of_R (enc' := fun x => [enc' x]) (Q := Q) (by decide) hl h0 hx hel
  have hlen := rsn_len hA
  obtain ⟨S, h1, h2, h3⟩ := hA
  refine ⟨s, xs, rfl, ⟨S, h1, h2, h3.imp id fun ⟨a, ea, eS, hC, hx⟩ => ⟨a, ea, eS, hC, fun i x hi => ?_⟩⟩, by omega, hq⟩
  have := hx i x hi 0 (enc' x) rfl
  simpa using this
theorem rslB_int {t e : TypeId} {k : IntKind} {cs : List Value} (hb : BulkOk β) (ht : P.underlying t = some (.slice e)) (he : P.underlying e = some (.int k)) (hc : P.cellsOf e = 1) (h : ReadsB H enc β N P W t cs) :
    ∃ (s : Sl) (xs : List Int), cs = [.slice s.a s.len s.cap] ∧ At W.heap (rsl (Ty.int k).enc xs s) ∧ xs.length ≤ N ∧ ∀ x ∈ xs, (Lit.int k x).wf = true :=
  rslB (enc' := (Ty.int k).enc) hb ht hc (fun cs' h' => reads_int he h'.reads) h
theorem rsgB {γ : Type} {t e : TypeId} {I : γ → Sl → Asn} {Q : γ → Prop} {cs : List Value} (hb : BulkOk β) (ht : P.underlying t = some (.slice e)) (hc : P.cellsOf e = 1)
    (hel : ∀ cs', ReadsB H enc β N P W e cs' → ∃ (s : Sl) (x : γ), cs' = [.slice s.a s.len s.cap] ∧ At W.heap (I x s) ∧ Q x) (h : ReadsB H enc β N P W t cs) :
    ∃ (s : Sl) (xs : List γ), cs = [.slice s.a s.len s.cap] ∧ At W.heap (rsg I xs s) ∧ xs.length ≤ N ∧ ∀ x ∈ xs, Q x := by
  obtain ⟨s, ps, e1, hA, hN, hq⟩ := rslB (α := Sl) (enc' := Ty.sl.enc) (Q := fun p => ∃ x, At W.heap (I x p) ∧ Q x) hb ht hc (fun cs' h' => by
    obtain ⟨p, x, e2, h2, h3⟩ := hel cs' h'
    exact ⟨p, e2, x, h2, h3⟩) h
  obtain ⟨xs, hxl, hx⟩ := pick_list (n := ps.length) (Q := fun i x => ∀ hi : i < ps.length, At W.heap (I x ps[i]) ∧ Q x) fun i hi => by
    obtain ⟨x, h1⟩ := hq ps[i] (List.getElem_mem hi)
    exact ⟨x, fun _ => h1⟩
  refine ⟨s, xs, e1, rsg_at hxl.symm hA fun i h1 h2 => (hx i _ (List.getElem?_eq_getElem h1) h2).1, by omega, fun x hx' => ?_⟩
  obtain ⟨i, hi, e⟩ := List.mem_iff_getElem.1 hx'
  exact (hx i x (by rw [List.getElem?_eq_getElem hi, e]) (by omega)).2

theorem lift_true_cond {C : Checked} {os : Os} {f : FuncId} {fn : Func} {s : OpenSpec} {k : (H : Type) → List (DataW H) → Bool} (hk : s.cond = some k) {F : Stop.Interp} {conds : List PathCond} {tb : TypeId}
    (own : ownKnob C.prog.godebug = none) (started : os.Started) (noInit : C.prog.inits.idxOf? f = none) (hfn : C.prog.funcs[f]? = some fn)
    (witness : ∃ (w : World) (tape : Tape) (i : Input), w.os = os ∧ (w.forCall tape i).Shaped C.prog ∧ i.vars = [] ∧ Input.okWide C.prog (w.forCall tape i) .any w.heap.size f i ∧
      s.pre6 enc C.prog fn conds false (w.forCall tape i).memory i.args ∧ ({} : Assume).holds C.prog (lone (Frame.enter C.prog f i.args .normal) [] (w.forCall tape i)))
    (hl : laidOutB C.prog = true) (hread : ∀ t ∈ fn.params.toList, C.prog.readableRec t = true ∧ t < C.prog.types.size)
    (hres : fn.resultTypes.toList = [tb]) (hres1 : fn.resultTypes.size = 1) (htb : C.prog.underlying tb = some .bool) (hvars : s.vars = [])
    (hs : ∀ ds : List (DataW H), ds.length = fn.params.toList.length → (s.fn F H (ds ++ [])).results = [.lit (.bool true)] ∧ (s.fn F H (ds ++ [])).args = ds ∧ (s.fn F H (ds ++ [])).vars = [])
    (call : ∀ (W : World) (base : Nat) (args : Array Value) (ds : List (DataW H)) (p : List MemPlace),
      (∀ (j : Nat) t v, fn.params[j]? = some t → args[j]? = some v → Value.okWide C.prog W .any base t v) →
      DataW.TrodAll enc C.prog W 0 (fun _ => true) true fn.params.toList args.toList ds p → (∀ x ∈ p, x.block < W.heap.size) → k H (ds ++ []) = true →
      Calls C.prog f args W fun e W' => e = .returned (.bool true) ∧ Below W.heap.size W W') :
    ReturnsInHanded {} C os f .any (s.pre6 enc C.prog fn conds false) ((s.at F).post enc C.prog fn false true false false) := by
  refine returnsInHanded_of_cond hk own started noInit hfn witness ?_
  intro W base args ds gs before hval hW hcnd hkk _
  have hW' := hW
  obtain ⟨p, q, hA, hV, rfl, hfz, hnd⟩ := hW
  rw [hvars] at hV
  obtain ⟨rfl, rfl⟩ := trodVars_none hV
  have hA' : DataW.TrodAll enc C.prog W 0 (fun _ => true) true fn.params.toList args.toList ds p := hA
  have hlt : ∀ x ∈ p, x.block < W.heap.size := fun x hx => hW'.lt x (by simp [hx])
  have hlen : ∀ {ts : List TypeId} {vs : List Value} {ds : List (DataW H)} {ps : List MemPlace}, DataW.TrodAll enc C.prog W 0 (fun _ => true) true ts vs ds ps → ds.length = ts.length := by
    intro ts
    induction ts with
    | nil => intro vs ds ps h; obtain ⟨_, rfl, _⟩ := trodAll_nil h; rfl
    | cons t ts ih =>
      intro vs ds ps h
      obtain ⟨v, vs', d, ds', p, q, rfl, rfl, rfl, hd, hrest⟩ := trodAll_cons h
      simp [ih hrest]
  obtain ⟨h1, h2, h3⟩ := hs ds (hlen hA')
  refine (call W base args ds p hval hA' hlt hkk).mono fun e W' ⟨he, hb⟩ => ?_
  subst he
  refine ⟨_, rfl, ⟨ds, [], p ++ [], [], p, [], hW', ?_, ?_, ?_, hb.frame _, fun h => by cases h⟩⟩
  · show DataW.TrodAll _ _ _ _ _ _ _ _ (s.fn F H (ds ++ [])).results _
    rw [h1, hres, hres1]
    exact trodAll_mk1 (shut_bool htb true)
  · show DataW.TrodAll _ _ _ _ _ _ _ _ (s.fn F H (ds ++ [])).args _
    rw [h2]
    exact trodAll_stays hl hread hA' (fun x hx => hb.same (hlt x hx)) fun x hx => by simpa using hlt x hx
  · show DataW.TrodVars _ _ _ _ s.vars (s.fn F H (ds ++ [])).vars _
    rw [h3, hvars]; rfl

end Go.Sx

set_option linter.unusedVariables false
namespace Go.Proofs.Ytfadkgkkbbcekaa
open Go Go.Sx Go.ChangeShapes Go.WideShapes Go.ChangeAt Go.RowKit

variable {H : Type}

theorem bulkAll_sum : ∀ es : List (DataW H), Rows.uptoBulkAll es = (es.map Rows.uptoBulk).sum
  | [] => by simp [Rows.uptoBulkAll]
  | d :: r => by rw [Rows.uptoBulkAll, bulkAll_sum r]; simp
theorem bulk_ok : BulkOk (H := H) Rows.uptoBulk where
  pos := fun d => by
    cases d with
    | lit l => cases l <;> simp [Rows.uptoBulk]
    | _ => simp [Rows.uptoBulk]
  slice := fun es sp => by
    rw [Rows.uptoBulk, bulkAll_sum]; omega
  part := fun ps p hp => by
    rw [Rows.uptoBulk, bulkAll_sum]
    have := le_sum_map (f := Rows.uptoBulk) hp
    omega

theorem cells24_ : Try.prog.cellsOf 24 = 2 := by kernel_rfl
theorem cells22_ : Try.prog.cellsOf 22 = 1 := by kernel_rfl
theorem cells34_ : Try.prog.cellsOf 34 = 1 := by kernel_rfl
theorem cells37_ : Try.prog.cellsOf 37 = 1 := by kernel_rfl

variable {enc : TypeId × Value → H} {W : World} {base : Nat} {v : Value} {d : DataW H} {p : List MemPlace}

set_option maxRecDepth 100000 in
theorem arg_formula (hval : Value.okWide Try.prog W .any base 24 v) (h : DataW.Trod enc Try.prog W 0 (fun _ => true) true 24 v d p) (hN : Rows.uptoBulk d ≤ 1048576) :
    ∃ (n : Int) (s : Sl) (cs : List (List Int)), v = .agg #[.int .i64 n, .slice s.a s.len s.cap] ∧ At W.heap (Go.Proofs.S.lli cs s) ∧ cs.length ≤ 1048576 ∧ ∀ c ∈ cs, c.length ≤ 1048576 := by
  simp only [Value.okWide, Try.underlying24] at hval
  obtain ⟨vs, rfl, _⟩ := hval
  obtain ⟨fuel, hf⟩ := h
  have hr : ReadsB H enc Rows.uptoBulk 1048576 Try.prog W 24 vs.toList := ⟨fuel, _, hf, hN⟩
  obtain ⟨hl, hx⟩ := readsB_struct bulk_ok Try.underlying24 hr
  rw [cells24_] at hl
  obtain ⟨u, w, e⟩ : ∃ u w, vs.toList = [u, w] := by
    match vs.toList, hl with
    | [u, w], _ => exact ⟨u, w, rfl⟩
  have r0 : ReadsB H enc Rows.uptoBulk 1048576 Try.prog W 3 ((vs.toList.drop 0).take (Try.prog.cellsOf 3)) := hx 0 _ rfl
  have r1 : ReadsB H enc Rows.uptoBulk 1048576 Try.prog W 22 ((vs.toList.drop 1).take (Try.prog.cellsOf 22)) := hx 1 _ rfl
  rw [e, cells3_] at r0
  rw [e, cells22_] at r1
  change ReadsB H enc Rows.uptoBulk 1048576 Try.prog W 3 [u] at r0
  change ReadsB H enc Rows.uptoBulk 1048576 Try.prog W 22 [w] at r1
  obtain ⟨n, e0, _⟩ := reads_int Try.underlying3 r0.reads
  obtain ⟨s, cs, e1, hA, hl1, hc⟩ := rsgB (I := fun c p => Go.Proofs.S.li c p) (Q := fun c => c.length ≤ 1048576) bulk_ok Try.underlying22 cells34_ (fun cs' h' => by
    obtain ⟨s2, xs, e2, hA2, hN2, _⟩ := rslB_int bulk_ok Try.underlying34 Try.underlying37 cells37_ h'
    exact ⟨s2, xs, e2, hA2, hN2⟩) r1
  refine ⟨n, s, cs, ?_, hA, hl1, hc⟩
  have : vs = #[u, w] := Array.toList_inj.1 (by simpa using e)
  rw [this]
  simp only [List.cons.injEq, and_true] at e0 e1
  rw [e0, e1]

end Go.Proofs.Ytfadkgkkbbcekaa
