/-
  Operations that turn the heap. Nothing here names a program.
-/
import Derived.Test.YtchedlkmgahicaaSx5
set_option linter.unusedVariables false
set_option linter.unusedSimpArgs false
namespace Go.Sx
open Go

section loud
variable {P : Program}

def needsCk (o : Oper) : Bool := match o.op with | .store .. | .call _ | .mapUpdate .. => true | _ => false

theorem GrownH.refl (h : Heap) : GrownH h h := ⟨Nat.le_refl _, fun _ _ => rfl⟩

def LR (o : Oper) (w : World) (K : Value → HP) (v : Value) (w' : World) : Prop := Same w w' ∧ (plainOp o = true → KeepNC w w') ∧ (needsCk o = false → GrownH w.heap w'.heap) ∧ K v w'.heap

theorem keepNC_setCell (w : World) (a : Addr) (v : Value) : KeepNC w (w.setCell a v) := fun b o h hc => by
  simp only [World.setCell, Array.getElem?_modify]
  split
  · rw [h]; cases o <;> first | exact absurd rfl (hc _ _ _) | rfl
  · exact h

theorem run_storeCells : ∀ (vs : List Value) (i : Nat) (a : Addr) (K : HP) (w : World), stA a i vs K w.heap →
    ∃ w', (storeCells a vs i).run P w = .ok () w' ∧ Same w w' ∧ KeepNC w w' ∧ K w'.heap
  | [], i, a, K, w, h => ⟨w, rfl, .refl _, .refl _, h⟩
  | v :: vs, i, a, K, w, h => by
    unfold stA at h
    split at h
    · rename_i hl
      obtain ⟨⟨c, t, hb, ho, hs⟩, h⟩ := h
      obtain ⟨w', hr, s, k, hK⟩ := run_storeCells vs (i + 1) a K (w.setCell (a.add i) v) h
      have hc : w.cell? (a.add i) = some c[(a.add i).off] := by
        rw [cell?_eq, cell, hb]; simp [hs, ho]
      have hf : w.frozen? (a.add i) = false := by
        simp [World.frozen?, hb]
      refine ⟨w', ?_, (Same.setCell _ _ _).trans s, (keepNC_setCell _ _ _).trans k, hK⟩
      simp only [storeCells, store, bind, Sem.bind]
      cases v <;> first | (simp [leafB] at hl; done) | (simp only [Sem.run, hc, hf, Bool.false_eq_true, if_false]; exact hr)
    · exact h.elim

theorem goes_ok {s : Sem Next} {o : Oper} {w w' : World} {v : Value} {K : Value → HP} (h : s.run P w = .ok (.value v) w') (hs : Same w w') (hn : plainOp o = true → KeepNC w w') (hg : needsCk o = false → GrownH w.heap w'.heap) (hK : K v w'.heap) : Goes P s w (LR o w K) :=
  goes_value h ⟨hs, hn, hg, hK⟩

theorem Same.grown {w : World} {h' : Heap} (hg : GrownH w.heap h') : Same w { w with heap := h' } :=
  .of_heap rfl rfl rfl hg.1 fun b o hb _ => by
    have hlt : b < w.heap.size := (Array.getElem?_eq_some_iff.1 hb).1
    show h'[b]? = _
    rw [hg.2 b hlt]; exact hb

theorem KeepNC.grown {w : World} {h' : Heap} (hg : GrownH w.heap h') : KeepNC w { w with heap := h' } := fun b o hb _ => by
  have hlt : b < w.heap.size := (Array.getElem?_eq_some_iff.1 hb).1
  show h'[b]? = _
  rw [hg.2 b hlt]; exact hb

theorem KeepNC.drawn {w : World} {h' : Heap} (hg : GrownH w.heap h') : KeepNC w { w with heap := h', drawn := w.drawn + 1 } := fun b o hb _ => by
  have hlt : b < w.heap.size := (Array.getElem?_eq_some_iff.1 hb).1
  show h'[b]? = _
  rw [hg.2 b hlt]; exact hb

theorem Same.grown_drawn {w : World} {h' : Heap} {n : Nat} (hg : GrownH w.heap h') : Same w { w with heap := h', drawn := n } :=
  .of_heap rfl rfl rfl hg.1 fun b o hb _ => by
    have hlt : b < w.heap.size := (Array.getElem?_eq_some_iff.1 hb).1
    show h'[b]? = _
    rw [hg.2 b hlt]; exact hb

theorem GrownH.push (h : Heap) (o : Obj) : GrownH h (h.push o) := ⟨by simp, fun b hb => by rw [Array.getElem?_push, if_neg (by omega)]⟩

theorem run_firstCells {w : World} {a : Option Addr} {n len cap sz : Nat} {vs : List Value} (h : FirstCells w.heap a (n * sz) vs) : (Builtin.firstCells sz n (.slice a len cap)).run P w = .ok vs.toArray w := by
  unfold FirstCells at h
  cases a with
  | none => simp only at h; subst h; simp [Builtin.firstCells, pure, Sem.run]
  | some b =>
    simp only at h
    simp only [Builtin.firstCells]
    exact run_loadCells w b vs _ h.1 h.2

theorem run_askRoom (w : World) (n : Nat) : (askRoom n).run P w = .ok () w := by
  unfold askRoom; split <;> rfl

def ncOf (w : World) (need old : Nat) (e : TypeId) : Nat := Question.cut (.appendCap need old e) (w.tape w.drawn (.appendCap need old e))

theorem ncOf_ge (w : World) (need old : Nat) (e : TypeId) : need ≤ ncOf w need old e := by simp only [ncOf, Question.cut]; omega
theorem ncOf_lt (w : World) (need old : Nat) (e : TypeId) (h : need < 2 ^ 63) : ncOf w need old e < 2 ^ 63 := by
  simp only [ncOf, Question.cut]
  have := Nat.mod_lt (w.tape w.drawn (.appendCap need old e)) (show 0 < 2 ^ 63 - need by omega)
  omega

theorem run_append {w : World} {t t2 ty el : TypeId} {ie : TypeInfo} {z : Value} {s x : Sl} {K : Sl → HP} (hu : P.underlying t = some (.slice el)) (hu2 : ∃ e2, P.underlying t2 = some (.slice e2))
    (hi : P.info? el = some ie) (hz : ie.zero = some z) (h : apd el ie.size ie.bytes z.cells s x K w.heap) :
    ∃ r w', (Builtin.append_ #[t, t2] ty #[.slice s.a s.len s.cap, .slice x.a x.len x.cap]).run P w = .ok (.slice r.a r.len r.cap) w' ∧ Same w w' ∧ KeepNC w w' ∧ K r w'.heap := by
  obtain ⟨news, hx, h1, h2⟩ := h
  obtain ⟨e2, hu2⟩ := hu2
  have hfx := run_firstCells (P := P) (len := x.len) (cap := x.cap) hx
  by_cases hle : s.len + x.len ≤ s.cap
  · have h := h1 hle
    cases hs : s.a with
    | none =>
      rw [hs] at h
      refine ⟨⟨none, s.len + x.len, s.cap⟩, w, ?_, .refl _, .refl _, h⟩
      simp [Builtin.append_, run_underlying hu, run_underlying hu2, sizeOf, typeInfo, hi, Builtin.lenOf, hle, hfx]
    | some a =>
      rw [hs] at h
      obtain ⟨w', hr, s', k, hK⟩ := run_storeCells (P := P) news 0 (a.add (s.len * ie.size)) _ w h
      refine ⟨⟨some a, s.len + x.len, s.cap⟩, w', ?_, s', k, hK⟩
      simp [Builtin.append_, run_underlying hu, run_underlying hu2, sizeOf, typeInfo, hi, Builtin.lenOf, hle, hfx, hr]
  · obtain ⟨hby, hb0, olds, ho, hK⟩ := h2 (by omega)
    have hfs := run_firstCells (P := P) (len := s.len) (cap := s.cap) ho
    have hfit := growslice_fits (old := s.cap) (need := s.len + x.len) (bytes := ie.bytes) (by omega) hby
    have hneed : s.len + x.len ≤ 140737488355328 := Nat.le_trans (Nat.le_mul_of_pos_right _ hb0) hby
    have hg := GrownH.push w.heap (.cells (olds.toArray ++ news.toArray ++ Builtin.zeroCells z.cells (ncOf w (s.len + x.len) s.cap el - (s.len + x.len))) el)
    have hfs' := run_firstCells (P := P) (w := w.drew) (len := s.len) (cap := s.cap) ho
    have hfx' := run_firstCells (P := P) (w := w.drew) (len := x.len) (cap := x.cap) hx
    refine ⟨⟨some ⟨w.heap.size, 0, none⟩, s.len + x.len, ncOf w (s.len + x.len) s.cap el⟩, { w with heap := w.heap.push _, drawn := w.drawn + 1 }, ?_, Same.grown_drawn hg, KeepNC.drawn hg, hK _ (ncOf_ge _ _ _ _) (ncOf_lt _ _ _ _ (by omega))⟩
    have hnot : ¬ 281474976710656 < Builtin.nextslicecap (s.len + x.len) s.cap * ie.bytes := by omega
    have hmax : ¬ 9223372036854775807 < ((s.len : Int) + (x.len : Int)) := by omega
    simp [Builtin.append_, run_underlying hu, run_underlying hu2, sizeOf, typeInfo, zeroValue, hi, hz, Builtin.lenOf, hle, hnot, hmax, Question.forced, hfs', hfx', newRow]
    refine ⟨rfl, ?_⟩
    show w.drew.alloc _ = w.drew.alloc _
    congr 2
    apply Array.ext'
    simp [List.append_assoc, ncOf]

theorem run_appendz {w : World} {t t2 ty el : TypeId} {ie : TypeInfo} {z : Value} {s : Sl} {k k2 : IntKind} {n : Int} {K : Sl → HP} (hu : P.underlying t = some (.slice el)) (hu2 : P.underlying t2 = some (.int k))
    (hi : P.info? el = some ie) (hz : ie.zero = some z) (h : apz el ie.size ie.bytes z.cells s n K w.heap) :
    ∃ r w', (Builtin.append_ #[t, t2] ty #[.slice s.a s.len s.cap, .int k2 n]).run P w = .ok (.slice r.a r.len r.cap) w' ∧ Same w w' ∧ KeepNC w w' ∧ K r w'.heap := by
  obtain ⟨hn0, hn47, hb0, hs0, h1, h2⟩ := h
  have hnle : n ≤ 2 ^ 47 := by
    have : n * 1 ≤ n * ie.bytes := Int.mul_le_mul_of_nonneg_left (by omega) hn0
    omega
  have hwrap : IntKind.i64.wrap n = n := by
    simp only [IntKind.wrap, IntKind.bits, IntKind.signed]
    have : n % 2 ^ 64 = n := Int.emod_eq_of_lt hn0 (by omega)
    simp [this]; omega
  have hnot0 : ¬ n < 0 := by omega
  have hnot48 : ¬ 281474976710656 < n * (ie.bytes : Int) := by omega
  by_cases hle : s.len + n.toNat ≤ s.cap
  · have h := h1 hle
    cases hs : s.a with
    | none =>
      rw [hs] at h
      refine ⟨⟨none, s.len + n.toNat, s.cap⟩, w, ?_, .refl _, .refl _, h⟩
      by_cases hz0 : n.toNat * ie.size = 0
      · simp [Builtin.append_, run_underlying hu, run_underlying hu2, sizeOf, typeInfo, hi, asInt, asIntOf, hwrap, hnot0, hnot48, hle, hz0]
      · simp [Builtin.append_, run_underlying hu, run_underlying hu2, sizeOf, typeInfo, hi, asInt, asIntOf, hwrap, hnot0, hnot48, hle, hz0, zeroValue, hz]
    | some a =>
      rw [hs] at h
      obtain ⟨w', hr, s', k, hK⟩ := run_storeCells (P := P) _ 0 (a.add (s.len * ie.size)) _ w h
      refine ⟨⟨some a, s.len + n.toNat, s.cap⟩, w', ?_, s', k, hK⟩
      by_cases hz0 : n.toNat * ie.size = 0
      · simp only [hz0, if_true] at hr
        simp [Builtin.append_, run_underlying hu, run_underlying hu2, sizeOf, typeInfo, hi, asInt, asIntOf, hwrap, hnot0, hnot48, hle, hz0] at hr ⊢
        simp [hr]
      · simp only [hz0, if_false] at hr
        simp [Builtin.append_, run_underlying hu, run_underlying hu2, sizeOf, typeInfo, hi, asInt, asIntOf, hwrap, hnot0, hnot48, hle, hz0, zeroValue, hz] at hr ⊢
        simp [hr]
  · obtain ⟨hby, olds, ho, hK⟩ := h2 (by omega)
    have hfit := growslice_fits (old := s.cap) (need := s.len + n.toNat) (bytes := ie.bytes) (by omega) hby
    have hneed : s.len + n.toNat ≤ 140737488355328 := Nat.le_trans (Nat.le_mul_of_pos_right _ hb0) hby
    have hg := GrownH.push w.heap (.cells (olds.toArray ++ (if n.toNat * ie.size = 0 then #[] else Builtin.zeroCells z.cells n.toNat) ++ Builtin.zeroCells z.cells (ncOf w (s.len + n.toNat) s.cap el - (s.len + n.toNat))) el)
    have hfs' := run_firstCells (P := P) (w := w.drew) (len := s.len) (cap := s.cap) ho
    refine ⟨⟨some ⟨w.heap.size, 0, none⟩, s.len + n.toNat, ncOf w (s.len + n.toNat) s.cap el⟩, { w with heap := w.heap.push _, drawn := w.drawn + 1 }, ?_, Same.grown_drawn hg, KeepNC.drawn hg, hK _ (ncOf_ge _ _ _ _) (ncOf_lt _ _ _ _ (by omega))⟩
    have hnot : ¬ 281474976710656 < Builtin.nextslicecap (s.len + n.toNat) s.cap * ie.bytes := by omega
    have hmax : ¬ 9223372036854775807 < ((s.len : Int) + (n.toNat : Int)) := by omega
    have hmax2 : ¬ 9223372036854775807 < ((s.len : Int) + max n 0) := by omega
    have himax : IntKind.i64.max = 9223372036854775807 := by decide
    by_cases hz0 : n.toNat * ie.size = 0
    · simp [Builtin.append_, run_underlying hu, run_underlying hu2, sizeOf, typeInfo, zeroValue, hi, hz, asInt, asIntOf, hwrap, hnot0, hnot48, hle, hnot, hmax, hmax2, himax, Question.forced, hfs', newRow, hz0]
      refine ⟨rfl, ?_⟩
      show w.drew.alloc _ = w.drew.alloc _
      congr 2
      try (apply Array.ext'; simp [List.append_assoc, ncOf])
    · simp [Builtin.append_, run_underlying hu, run_underlying hu2, sizeOf, typeInfo, zeroValue, hi, hz, asInt, asIntOf, hwrap, hnot0, hnot48, hle, hnot, hmax, hmax2, himax, Question.forced, hfs', newRow, hz0]
      refine ⟨rfl, ?_⟩
      show w.drew.alloc _ = w.drew.alloc _
      congr 2
      try (apply Array.ext'; simp [List.append_assoc, ncOf])

theorem uniq_idx : ∀ {es : List MapEntry}, es.Pairwise (fun a b => a.key ≠ b.key) → ∀ {i j : Nat} {a b : MapEntry}, es[i]? = some a → es[j]? = some b → a.key = b.key → i = j := by
  intro es hp i j a b hi hj hk
  obtain ⟨hil, ea⟩ := List.getElem?_eq_some_iff.1 hi
  obtain ⟨hjl, eb⟩ := List.getElem?_eq_some_iff.1 hj
  rcases Nat.lt_trichotomy i j with h | h | h
  · have := List.pairwise_iff_getElem.1 hp i j hil hjl h
    rw [ea, eb] at this; exact absurd hk this
  · exact h
  · have := List.pairwise_iff_getElem.1 hp j i hjl hil h
    rw [ea, eb] at this; exact absurd hk.symm this
theorem uniq_key {es : List MapEntry} (hp : es.Pairwise (fun a b => a.key ≠ b.key)) {a b : MapEntry} (ha : a ∈ es) (hb : b ∈ es) (hk : a.key = b.key) : a = b := by
  obtain ⟨i, hi⟩ := List.getElem?_of_mem ha
  obtain ⟨j, hj⟩ := List.getElem?_of_mem hb
  have := uniq_idx hp hi hj hk
  subst this
  rw [hi] at hj; cases hj; rfl
theorem pairwise_set {es : List MapEntry} (hp : es.Pairwise (fun a b => a.key ≠ b.key)) {j : Nat} {a b : MapEntry} (hj : es[j]? = some a) (hk : b.key = a.key) : (es.set j b).Pairwise (fun a b => a.key ≠ b.key) := by
  have key : (es.set j b).map (·.key) = es.map (·.key) := by
    apply List.ext_getElem?
    intro q
    rw [List.getElem?_map, List.getElem?_map, List.getElem?_set]
    by_cases h : j = q
    · subst h
      rw [if_pos rfl, hj]
      simp [(List.getElem?_eq_some_iff.1 hj).1, hk]
    · rw [if_neg h]
  rw [← List.pairwise_map (f := MapEntry.key) (R := fun a b => a ≠ b), key, List.pairwise_map]
  exact hp
theorem Same.map {w : World} {b : Nat} {es : Array MapEntry} {clk : Nat} (hb : w.heap[b]? = some (.map es clk)) (es' : Array MapEntry) (clk' : Nat) : Same w { w with heap := w.heap.setIfInBounds b (.map es' clk') } := by
  refine ⟨rfl, rfl, rfl, by simp, fun i ds hi => ?_, fun i r hi => ?_⟩
  · have hne : b ≠ i := by rintro rfl; rw [hb] at hi; cases hi
    show (w.heap.setIfInBounds b _)[i]? = _
    rw [Array.getElem?_setIfInBounds, if_neg hne]; exact hi
  · have hne : b ≠ i := by rintro rfl; rw [hb] at hi; cases hi
    refine ⟨r, ?_, rfl, rfl, rfl, rfl, rfl, rfl⟩
    show (w.heap.setIfInBounds b _)[i]? = _
    rw [Array.getElem?_setIfInBounds, if_neg hne]; exact hi

theorem opVC_goes {e : Env} {o : Oper} {K : Value → HP} {h : Heap} (hh : opVC P e o K h) (w : World) (hw : w.heap = h) : Goes P (execOp e.ev o) w (LR o w K) := by
  subst hw
  by_cases hq : isQuiet o = true
  · obtain ⟨v, hK, hv⟩ := opVC_quiet hq hh
    exact goes_ok (hv.run w rfl) (.refl _) (fun _ => .refl _) (fun _ => .refl _) hK
  · unfold opVC at hh
    split at hh
    · rename_i x ho
      exact goes_ok (w' := w) (by simp [execOp, ho]) (.refl _) (fun _ => .refl _) (fun _ => .refl _) hh
    · rename_i ho; exact absurd (by simp [isQuiet, ho]) hq
    · rename_i ho; exact absurd (by simp [isQuiet, ho]) hq
    · rename_i t a v ho
      split at hh
      · rename_i p hp
        cases p with
        | none => exact hh.elim
        | some ad =>
          simp only [nn] at hh
          unfold stVC at hh
          split at hh
          · rename_i i hi
            split at hh
            · rename_i hb
              have hsz := Nat.eq_of_beq_eq_true hb
              obtain ⟨w', hr, s, k, hK⟩ := run_storeCells (P := P) _ 0 ad _ w hh
              have hrun : (execOp e.ev o).run P w = .ok .skip w' := by
                simp [execOp, ho, Instr.storeAt, Instr.sureAddr, hp, storeVar, sizeOf, typeInfo, hi, hsz, hr]
              exact goes_skip hrun ⟨s, fun _ => k, fun h => by simp [needsCk, ho] at h, hK⟩
            · exact hh.elim
          · exact hh.elim
      · exact hh.elim
    · rename_i ho; exact absurd (by simp [isQuiet, ho]) hq
    · rename_i ho; exact absurd (by simp [isQuiet, ho]) hq
    · rename_i ho; exact absurd (by simp [isQuiet, ho]) hq
    · rename_i ho; exact absurd (by simp [isQuiet, ho]) hq
    · rename_i ho; exact absurd (by simp [isQuiet, ho]) hq
    · rename_i t l c ho
      split at hh
      · rename_i el k1 n k2 m hu hl hc
        split at hh
        · rename_i ie hie
          split at hh
          · rename_i z hz
            obtain ⟨h0, h1, h2, h3, hK⟩ := hh
            have hg := GrownH.push w.heap (.cells (if m.toNat * ie.size = 0 then #[] else zrow z.cells (m.toNat * ie.size)) el)
            have w1 : ∀ x : Int, 0 ≤ x → x < 2 ^ 63 → IntKind.i64.wrap x = x := by
              intro x hx0 hx1
              simp only [IntKind.wrap, IntKind.bits, IntKind.signed]
              have : x % 2 ^ 64 = x := Int.emod_eq_of_lt hx0 (by omega)
              simp [this]; omega
            have wn := w1 n h0 (by omega)
            have wm := w1 m (by omega) h3
            have c1 : ¬ m < 0 := by omega
            have c2 : ¬ 281474976710656 < ((ie.bytes : Int) * m) := by omega
            have c3 : ¬ n < 0 := by omega
            have c4 : ¬ m < n := by omega
            refine goes_ok (w' := { w with heap := w.heap.push _ }) ?_ (Same.grown hg) (fun _ => KeepNC.grown hg) (fun _ => hg) hK
            by_cases hz0 : m.toNat * ie.size = 0
            · simp [execOp, ho, Instr.makeSlice, run_underlying hu, hl, hc, asInt, asIntOf, typeInfo, hie, wn, wm, c1, c2, c3, c4, run_askRoom, sizeOf, hz0, newRow, newObj, Sem.run]
              rw [show Array.map (fun _ : Nat => (default : Value)) (Array.range 0) = #[] from Array.eq_empty_of_size_eq_zero (by simp)]
            · simp [execOp, ho, Instr.makeSlice, run_underlying hu, hl, hc, asInt, asIntOf, typeInfo, hie, wn, wm, c1, c2, c3, c4, run_askRoom, sizeOf, hz0, zeroValue, hz, newRow, newObj, Sem.run, zrow]
          · exact hh.elim
        · exact hh.elim
      · exact hh.elim
    · rename_i c ho
      unfold callVC at hh
      obtain ⟨callee, args, tys⟩ := c
      split at hh
      · rename_i g hc
        simp only at hc; subst hc
        have hsem : execOp e.ev o = callFunc g (args.map e.ev) := by
          simp [execOp, ho, resolve, Env.ev, Deferred.ofValue, invoke, bind, Sem.bind, pure]
        rw [hsem]
        exact (hh w rfl).mono fun v w' ⟨s, x, hx, hK⟩ => ⟨s, fun hp => by simp [plainOp, ho] at hp, fun h => by simp [needsCk, ho] at h, hx ▸ hK⟩
      · rename_i t hc
        simp only at hc; subst hc
        have hsem : execOp e.ev o = applyV (e.ev (.tmp t)) (args.map e.ev) := by
          simp [execOp, ho, resolve, applyV]
        rw [hsem]
        exact (hh w rfl).mono fun v w' ⟨s, x, hx, hK⟩ => ⟨s, fun hp => by simp [plainOp, ho] at hp, fun h => by simp [needsCk, ho] at h, hx ▸ hK⟩
      · rename_i b hc
        simp only at hc; subst hc
        have hnp : plainOp o = true → False := fun hp => by simp [plainOp, ho] at hp
        split at hh
        · split at hh
          · rename_i t t2 s x htys hargs
            have et : tys = #[t, t2] := by simpa using congrArg List.toArray htys
            have ea : args = #[s, x] := by simpa using congrArg List.toArray hargs
            subst et ea
            split at hh
            · rename_i el e2 a l cp b m cp' hu hu2 hs hx
              split at hh
              · rename_i ie hie
                split at hh
                · rename_i z hz
                  obtain ⟨r, w', hr, s', k, hK⟩ := run_append (P := P) (ty := o.type) hu ⟨e2, hu2⟩ hie hz hh
                  refine goes_ok (w' := w') ?_ s' (fun h => (hnp h).elim) (fun h => by simp [needsCk, ho] at h) hK
                  simp [execOp, ho, resolve, invoke, builtin, hs, hx] at hr ⊢
                  simp [hr]
                · exact hh.elim
              · exact hh.elim
            · rename_i el kk a l cp k2 n hu hu2 hs hx
              split at hh
              · rename_i ie hie
                split at hh
                · rename_i z hz
                  obtain ⟨r, w', hr, s', k, hK⟩ := run_appendz (P := P) (ty := o.type) (k2 := k2) hu hu2 hie hz hh
                  refine goes_ok (w' := w') ?_ s' (fun h => (hnp h).elim) (fun h => by simp [needsCk, ho] at h) hK
                  simp [execOp, ho, resolve, invoke, builtin, hs, hx] at hr ⊢
                  simp [hr]
                · exact hh.elim
              · exact hh.elim
            · exact hh.elim
          · exact hh.elim
        · split at hh
          · rename_i t tl d s htys hargs
            have ea : args = #[d, s] := by simpa using congrArg List.toArray hargs
            subst ea
            have et : tys[0]? = some t := by
              have : tys.toList[0]? = some t := by rw [htys]; rfl
              simpa using this
            split at hh
            · rename_i el a l cp b m cp' hu hd hs
              split at hh
              · rename_i ie hie
                obtain ⟨vs, hf, hh⟩ := hh
                have hfr := run_firstCells (P := P) (len := m) (cap := cp') hf
                cases a with
                | none =>
                  simp only at hh
                  refine goes_ok (w' := w) ?_ (.refl _) (fun h => (hnp h).elim) (fun h => by simp [needsCk, ho] at h) hh
                  simp [execOp, ho, resolve, invoke, builtin, hd, hs, Builtin.copy_, et, run_underlying hu, Builtin.lenOf, sizeOf, typeInfo, hie, hfr, goInt]
                | some ad =>
                  simp only at hh
                  obtain ⟨w', hr, s', k, hK⟩ := run_storeCells (P := P) vs 0 ad _ w hh
                  refine goes_ok (w' := w') ?_ s' (fun h => (hnp h).elim) (fun h => by simp [needsCk, ho] at h) hK
                  simp [execOp, ho, resolve, invoke, builtin, hd, hs, Builtin.copy_, et, run_underlying hu, Builtin.lenOf, sizeOf, typeInfo, hie, hfr, hr, goInt]
              · exact hh.elim
            · exact hh.elim
          · exact hh.elim
        · split at hh
          · rename_i t tl s htys hargs
            have ea : args = #[s] := by simpa using congrArg List.toArray hargs
            subst ea
            have et : tys[0]? = some t := by
              have : tys.toList[0]? = some t := by rw [htys]; rfl
              simpa using this
            split at hh
            · rename_i el a l cp hu hs
              split at hh
              · rename_i ie hie
                split at hh
                · rename_i z hz
                  unfold clr at hh
                  cases a with
                  | none =>
                    simp only at hh
                    refine goes_ok (w' := w) ?_ (.refl _) (fun h => (hnp h).elim) (fun h => by simp [needsCk, ho] at h) hh
                    simp [execOp, ho, resolve, invoke, builtin, hs, Builtin.clear_, et, run_underlying hu, undef]
                  | some ad =>
                    simp only at hh
                    obtain ⟨w', hr, s', k, hK⟩ := run_storeCells (P := P) _ 0 ad _ w hh
                    refine goes_ok (w' := w') ?_ s' (fun h => (hnp h).elim) (fun h => by simp [needsCk, ho] at h) hK
                    cases l with
                    | zero =>
                      have : (Builtin.zeroCells z.cells 0).toList = [] := by simp [Builtin.zeroCells]
                      rw [this] at hr
                      simp [storeCells, pure, Sem.run] at hr
                      subst hr
                      simp [execOp, ho, resolve, invoke, builtin, hs, Builtin.clear_, et, run_underlying hu, undef]
                    | succ l =>
                      simp [execOp, ho, resolve, invoke, builtin, hs, Builtin.clear_, et, run_underlying hu, undef, zeroValue, typeInfo, hie, hz, hr]
                · exact hh.elim
              · exact hh.elim
            · exact hh.elim
          · exact hh.elim
        all_goals first
          | exact hh.elim
          | exact absurd (by simp [isQuiet, ho]) hq
      · exact hh.elim
    · rename_i t ho
      exact goes_ok (w' := { w with heap := w.heap.push (.map #[] 0) }) (by simp [execOp, ho, Instr.makeMap, newObj, Sem.run]) (Same.push w _) (fun hp => by simp [plainOp, ho] at hp) (fun _ => GrownH.push _ _) hh
    · rename_i t x ix ho
      split at hh
      · rename_i kt vt κ i hu hix
        split at hh
        · rename_i κ' ie d hk hie hd
          split at hh
          · rename_i z hkb hz
            simp only [Bool.and_eq_true, beq_iff_eq] at hkb
            obtain ⟨rfl, _⟩ := hkb
            obtain ⟨b, es, clk, hm, ⟨hb, hkeys, hpw⟩, v, hv, hK⟩ := hh
            have hkey : MapKept.IsKey (.int κ) (.int κ i) := rfl
            have hks : ∀ e ∈ es.toList, MapKept.IsKey (.int κ) e.key := fun e he => by obtain ⟨y, hy⟩ := hkeys e he; rw [hy]; rfl
            refine goes_ok (v := (leafTy d).enc v) (w' := w) ?_ (.refl _) (fun _ => .refl _) (fun _ => .refl _) hK
            rcases MapKept.findNow_spec hkey es.toList 0 hks with ⟨h1, h2⟩ | ⟨j, e0, h1, h2, h3⟩
            · rcases hv with ⟨_, hz'⟩ | ⟨e1, he1, hk1, _⟩
              · simp [execOp, ho, hix, Instr.lookup, run_underlying hu, hm, MapKept.run_getObj_map hb, MapKept.run_checkKey hk hkey, MapKept.run_findKey hk h1, zeroValue, typeInfo, hie, hz, hz']
              · exact absurd hk1 (h2 e1 he1)
            · rcases hv with ⟨hne, _⟩ | ⟨e1, he1, hk1, hv1⟩
              · exact absurd h3 (hne e0 (List.mem_of_getElem? h2))
              · have e01 : e0 = e1 := uniq_key hpw (List.mem_of_getElem? h2) he1 (h3.trans hk1.symm)
                subst e01
                rw [hv1] at h1
                simp [execOp, ho, hix, Instr.lookup, run_underlying hu, hm, MapKept.run_getObj_map hb, MapKept.run_checkKey hk hkey, MapKept.run_findKey hk h1]
          · exact hh.elim
        · exact hh.elim
      · exact hh.elim
    · rename_i t m k x ho
      split at hh
      · rename_i kt vt κ i hu hix
        split at hh
        · rename_i κ' hk
          split at hh
          · rename_i hkb
            have hkb : κ = κ' := by simpa using hkb
            subst hkb
            obtain ⟨b, es, clk, hm, ⟨hb, hkeys, hpw⟩, hK⟩ := hh
            have hkey : MapKept.IsKey (.int κ) (.int κ i) := rfl
            have hks : ∀ e ∈ es.toList, MapKept.IsKey (.int κ) e.key := fun e he => by obtain ⟨y, hy⟩ := hkeys e he; rw [hy]; rfl
            have hlt : b < w.heap.size := (Array.getElem?_eq_some_iff.1 hb).1
            have hset : ∀ o : Obj, (w.heap.setIfInBounds b o)[b]? = some o := fun o => by rw [Array.getElem?_setIfInBounds]; simp [hlt]
            rcases MapKept.findNow_spec hkey es.toList 0 hks with ⟨h1, h2⟩ | ⟨j, e0, h1, h2, h3⟩
            · refine goes_skip (w' := { w with heap := w.heap.setIfInBounds b (.map (es.push { key := .int κ i, val := e.ev x, born := clk }) (clk + 1)) }) ?_ ⟨Same.map hb _ _, fun hp => by simp [plainOp, ho] at hp, fun hn => by simp [needsCk, ho] at hn, hK _ _ ⟨hset _, ?_, ?_⟩ ?_⟩
              · simp [execOp, ho, hix, Instr.mapUpdate, run_underlying hu, hm, MapKept.run_getObj_map hb, MapKept.run_checkKey hk hkey, MapKept.run_findKey hk h1, MapKept.run_setObj_map _ hb]
              · intro e' he'
                simp only [Array.toList_push, List.mem_append, List.mem_singleton] at he'
                rcases he' with he' | rfl
                · exact hkeys e' he'
                · exact ⟨i, rfl⟩
              · rw [Array.toList_push]
                exact List.pairwise_append.2 ⟨hpw, by simp, fun a ha b hb => by simp at hb; subst hb; exact h2 a ha⟩
              · intro y u
                unfold hasKV
                simp only [Array.toList_push, List.mem_append, List.mem_singleton]
                constructor
                · rintro ⟨e', he' | rfl, hk', hv'⟩
                  · exact .inr ⟨fun e => h2 e' he' (by rw [hk', e]), e', he', hk', hv'⟩
                  · simp at hk'; exact .inl ⟨hk'.symm, hv'.symm⟩
                · rintro (⟨rfl, rfl⟩ | ⟨_, e', he', hk', hv'⟩)
                  · exact ⟨_, .inr rfl, rfl, rfl⟩
                  · exact ⟨e', .inl he', hk', hv'⟩
            · rw [Nat.zero_add] at h1
              have hj : es[j]? = some e0 := by simpa using h2
              have hjl : j < es.size := (Array.getElem?_eq_some_iff.1 hj).1
              let g : MapEntry → MapEntry := fun e' => { e' with key := .int κ i, val := e.ev x }
              have etl : (es.modify j g).toList = es.toList.set j (g e0) := by
                apply List.ext_getElem?
                intro q
                rw [Array.getElem?_toList, Array.getElem?_modify, List.getElem?_set]
                by_cases hq : j = q
                · subst hq
                  rw [if_pos rfl, if_pos rfl, hj]
                  simp [hjl]
                · rw [if_neg hq, if_neg hq, Array.getElem?_toList]
              have hmem : ∀ e', e' ∈ es.toList.set j (g e0) ↔ e' = g e0 ∨ (e' ∈ es.toList ∧ e'.key ≠ .int κ i) := by
                intro e'
                constructor
                · intro h
                  obtain ⟨q, hq⟩ := List.getElem?_of_mem h
                  rw [List.getElem?_set] at hq
                  split at hq
                  · split at hq
                    · simp at hq; exact .inl hq.symm
                    · cases hq
                  · rename_i hne
                    refine .inr ⟨List.mem_of_getElem? hq, fun hk' => hne ?_⟩
                    exact uniq_idx hpw h2 hq (h3.trans hk'.symm)
                · rintro (rfl | ⟨h, hk'⟩)
                  · exact List.mem_of_getElem? (i := j) (by rw [List.getElem?_set, if_pos rfl]; simp [hjl])
                  · obtain ⟨q, hq⟩ := List.getElem?_of_mem h
                    refine List.mem_of_getElem? (i := q) ?_
                    rw [List.getElem?_set, if_neg]
                    · exact hq
                    · rintro rfl; rw [h2] at hq; cases hq; exact hk' h3
              refine goes_skip (w' := { w with heap := w.heap.setIfInBounds b (.map (es.modify j g) clk) }) ?_ ⟨Same.map hb _ _, fun hp => by simp [plainOp, ho] at hp, fun hn => by simp [needsCk, ho] at hn, hK _ _ ⟨hset _, ?_, ?_⟩ ?_⟩
              · simp [execOp, ho, hix, Instr.mapUpdate, run_underlying hu, hm, MapKept.run_getObj_map hb, MapKept.run_checkKey hk hkey, MapKept.run_findKey hk h1, hj, h3, MapKept.run_keyThatStays hkey, MapKept.run_setObj_map _ hb, g]
              · intro e' he'
                rw [etl] at he'
                rcases (hmem e').1 he' with rfl | ⟨he', _⟩
                · exact ⟨i, rfl⟩
                · exact hkeys e' he'
              · rw [etl]
                exact pairwise_set hpw h2 (by rw [h3])
              · intro y u
                unfold hasKV
                rw [etl]
                constructor
                · rintro ⟨e', he', hk', hv'⟩
                  rcases (hmem e').1 he' with rfl | ⟨he', hne⟩
                  · have e1 : i = y := by simpa [g] using hk'
                    exact .inl ⟨e1.symm, hv'.symm⟩
                  · exact .inr ⟨fun e => hne (by rw [hk', e]), e', he', hk', hv'⟩
                · rintro (⟨rfl, rfl⟩ | ⟨hne, e', he', hk', hv'⟩)
                  · exact ⟨g e0, (hmem _).2 (.inl rfl), rfl, rfl⟩
                  · exact ⟨e', (hmem _).2 (.inr ⟨he', fun hk2 => hne (by rw [hk'] at hk2; simpa using hk2)⟩), hk', hv'⟩
          · exact hh.elim
        · exact hh.elim
      · exact hh.elim
    · obtain ⟨nx, h', hk, hg, hr⟩ := semN_sound _ _ _ hh
      cases nx <;> first | exact hk.elim | exact goes_ok (w' := { w with heap := h' }) (hr w rfl) (Same.grown hg) (fun _ => KeepNC.grown hg) (fun _ => hg) hk
    · obtain ⟨nx, h', hk, hg, hr⟩ := semN_sound _ _ _ hh
      cases nx <;> first | exact hk.elim | exact goes_ok (w' := { w with heap := h' }) (hr w rfl) (Same.grown hg) (fun _ => KeepNC.grown hg) (fun _ => hg) hk
    · obtain ⟨nx, h', hk, hg, hr⟩ := semN_sound _ _ _ hh
      cases nx <;> first | exact hk.elim | exact goes_ok (w' := { w with heap := h' }) (hr w rfl) (Same.grown hg) (fun _ => KeepNC.grown hg) (fun _ => hg) hk
    all_goals first
      | exact hh.elim
      | (rename_i ho; exact absurd (by simp [isQuiet, ho]) hq)

end loud
end Go.Sx
