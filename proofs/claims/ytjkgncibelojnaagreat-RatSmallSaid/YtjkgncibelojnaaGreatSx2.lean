/-
  The end of a call; a round of a range over a function; the statement itself. Nothing here names a program.
-/
import Derived.Test.YtjkgncibelojnaaGreatSx1
import Derived.Laws.Tables
set_option linter.unusedVariables false
set_option linter.unusedSimpArgs false
namespace Go.Sx
open Go
def Marked (n0 : Nat) (h h' : Heap) : Prop := h'.size = h.size ∧ ∀ b : Nat, (b < n0 ∨ ∀ ds, h[b]? ≠ some (.deferred ds)) → h'[b]? = h[b]?
theorem Marked.refl (n0 : Nat) (h : Heap) : Marked n0 h h := ⟨rfl, fun _ _ => rfl⟩
theorem run_takeDeferred' {P : Program} {w : World} {r : Nat} {ds : List Deferred} (h : w.heap[r]? = some (.deferred (some ds))) :
    (Instr.takeDeferred r).run P w = .ok ds { w with heap := w.heap.setIfInBounds r (.deferred none) } := by
  simp [Instr.takeDeferred, getObj, setObj, bind, Sem.bind, pure, Sem.run, h]
theorem unwind_marks {P : Program} {n0 : Nat} : ∀ (ms : List Nat) (fr : Frame) (cs : List Frame) (w : World), fr.mode = .returning → fr.defers = ms.map mk → ms.Nodup →
    (∀ r ∈ ms, n0 ≤ r ∧ w.heap[r]? = some (.deferred (some []))) →
    ∃ h', Marked n0 w.heap h' ∧ (ms = [] → h' = w.heap) ∧ Steps P (lone fr cs w) (lone { fr with defers := [] } cs { w with heap := h' }) := by
  intro ms
  induction ms with
  | nil =>
    intro fr cs w hm hd _ _
    refine ⟨w.heap, .refl _ _, fun _ => rfl, ?_⟩
    have : { fr with defers := [] } = fr := by cases fr; simp at hd ⊢; exact hd
    rw [this]; exact .refl _ _
  | cons r ms ih =>
    intro fr cs w hm hd hn hb
    have hr := hb r (by simp)
    have hne : ∀ x ∈ ms, x ≠ r := fun x hx e => by simp at hn; exact hn.1 (e ▸ hx)
    obtain ⟨h', hM, _, hs⟩ := ih { fr with defers := ms.map mk } cs { w with heap := w.heap.setIfInBounds r (.deferred none) } hm rfl (by simp at hn; exact hn.2)
      (fun x hx => ⟨(hb x (by simp [hx])).1, by
        have := (hb x (by simp [hx])).2
        show (w.heap.setIfInBounds r (.deferred none))[x]? = _
        rw [Array.getElem?_setIfInBounds, if_neg (fun e => hne x hx e.symm)]; exact this⟩)
    refine ⟨h', ⟨?_, ?_⟩, fun e => (by cases e), .head (step_lone_go ?_) hs⟩
    · rw [hM.1]; simp
    · intro b hcond
      have hbr : b ≠ r := by
        rintro rfl
        rcases hcond with h | h
        · omega
        · exact h _ hr.2
      have e1 : (w.heap.setIfInBounds r (.deferred none))[b]? = w.heap[b]? := by rw [Array.getElem?_setIfInBounds, if_neg (fun e => hbr e.symm)]
      rw [← e1]
      refine hM.2 b ?_
      rcases hcond with h | h
      · exact .inl h
      · exact .inr fun ds e => h ds (by rw [← e1]; exact e)
    · obtain ⟨fn, tmps, todo, defers, mode, kind, ro⟩ := fr
      simp only at hm hd
      subst hm hd
      simp [stepG, unwind, mk, Sem.runT_eq, run_takeDeferred' hr.2]
theorem calls_of_cw {P : Program} {f : FuncId} {fn : Func} {c : Code} {args : Array Value} {w : World} {R : Value → World → Prop} (hf : P.funcs[f]? = some fn) (hb : fn.body = some c)
    (h : CW P w.heap.size none c (fun x a w' => (x = .normal ∨ x = .ret) ∧ ∀ h'', (noRF c = true → h'' = w'.heap) → Marked w.heap.size w'.heap h'' →
        ∃ v, (results fn a.tmps).run P { w' with heap := h'' } = .ok v { w' with heap := h'' } ∧ R v { w' with heap := h'' })
      { tmps := args ++ Array.replicate (fn.ntmps - args.size) undef, defers := [] } w) :
    Calls P f args w fun e w' => ∃ v, e = .returned v ∧ R v w' ∧ Same w w' := by
  intro cs
  obtain ⟨x, a', w', ⟨hx, hres⟩, ⟨ms, hd, hnd, hms⟩, hno, -, -, hs, arr⟩ := h [] (Frame.enter P f args .normal) [] cs trivial rfl (fun _ e => by cases e) (.nil _ _ _) (Nat.le_refl _)
  rw [List.append_nil] at hd
  have e0 : Frame.enter P f args .normal = (Frame.enter P f args .normal).atR { tmps := args ++ Array.replicate (fn.ntmps - args.size) undef, defers := [] } [.code c] := by
    simp [Frame.enter, Frame.atR, hf, hb]
  have reach : ∃ td, Steps P (lone (Frame.enter P f args .normal) cs w) (lone { (Frame.enter P f args .normal).atR a' td with mode := .returning } cs w') := by
    rw [e0]
    rcases hx with rfl | rfl
    · exact ⟨[], Steps.trans arr (.one (stepR_end rfl))⟩
    · obtain ⟨td, s⟩ := arr; exact ⟨_, Steps.trans s (.one (stepR_ret rfl))⟩
  obtain ⟨td, st⟩ := reach
  obtain ⟨h'', hM, hnil, st2⟩ := unwind_marks (P := P) (n0 := w.heap.size) ms { (Frame.enter P f args .normal).atR a' td with mode := .returning } cs w' rfl hd hnd hms
  obtain ⟨v, hrun, hR⟩ := hres h'' (fun hn => hnil (by
    have e := hno hn
    rw [hd] at e
    cases ms with
    | nil => rfl
    | cons r ms => simp at e)) hM
  have hsame : Same w { w' with heap := h'' } := by
    refine ⟨hs.os, hs.tape, hs.output, by show w.heap.size ≤ h''.size; rw [hM.1]; exact hs.size, fun b ds hb => ?_, fun b r hb => ?_⟩
    · have hlt : b < w.heap.size := by
        rcases Nat.lt_or_ge b w.heap.size with h' | h'
        · exact h'
        · simp [Array.getElem?_eq_none h'] at hb
      show h''[b]? = _
      rw [hM.2 b (.inl hlt)]; exact hs.marks b ds hb
    · have hlt : b < w.heap.size := by
        rcases Nat.lt_or_ge b w.heap.size with h' | h'
        · exact h'
        · simp [Array.getElem?_eq_none h'] at hb
      obtain ⟨r', hr', rest⟩ := hs.loops b r hb
      exact ⟨r', by show h''[b]? = _; rw [hM.2 b (.inl hlt)]; exact hr', rest⟩
  exact ⟨.returned v, { w' with heap := h'' }, _, ⟨v, rfl, hR, hsame⟩, Steps.trans st st2, rfl, rfl, rfl, rfl, fn, hf, hrun⟩
def applyV (fv : Value) (args : Array Value) : Sem Next := do let d ← Deferred.ofValue fv args; invoke d.target d.args
def yv (l : Nat) : Value := .func (.yield l) #[] #[]
def jumpOf : Ex → Option Code
  | .normal => none
  | .exit id => some (.exit id)
  | .ret => some .ret
def Ex.isNormal : Ex → Bool
  | .normal => true
  | _ => false
def LoopLike (r' r : Loop) : Prop := r'.fn = r.fn ∧ r'.tmps = r.tmps ∧ r'.params = r.params ∧ r'.assign = r.assign ∧ r'.body = r.body ∧ r'.defers = r.defers
theorem LoopLike.eq {r' r : Loop} (h : LoopLike r' r) (s : LoopState) (j : Option Code) : ({ r' with state := s, pending := j } : Loop) = { r with state := s, pending := j } := by
  obtain ⟨a, b, c, d, e, f⟩ := h
  cases r; cases r'; simp only at a b c d e f; subst a b c d e f; rfl
theorem goes_yield {P : Program} {w : World} {l : Nat} {r : Loop} {args : Array Value} {R : Value → World → Prop} (hl : w.heap[l]? = some (.loop r)) (hst : r.state = .ready) (ha : args.size = r.params.size)
    (hpl : plainC r.assign = true)
    (h : CW P 0 (some l) r.assign (fun x a w1 => x = .normal ∧ a.defers = [] ∧
        CW P 0 (some l) r.body (fun x a w2 => R (.bool x.isNormal) { w2 with heap := w2.heap.setIfInBounds l (.loop { r with state := if x.isNormal then .ready else .done, pending := jumpOf x }) })
          a { w1 with heap := w1.heap.setIfInBounds l (.loop { r with state := .busy }) })
      { tmps := (r.params.zip args).foldl (fun tmps (t, a) => tmps.setIfInBounds t a) r.tmps, defers := [] } w) :
    Goes P (applyV (yv l) args) w (fun v w' => Same w w' ∧ R v w') := by
  intro fr cs hk ht
  let b : Frame := { fn := r.fn, tmps := #[], todo := [], defers := [], mode := .run, kind := .normal, roundOf := some l }
  have hro : RoOk (some l) w := fun l' e => by cases e; exact ⟨r, hl⟩
  obtain ⟨x1, a1, w1, ⟨rfl, hd1, hbody⟩, m1, _, p1, _, s1, arr1⟩ := h [] b [.beginRound, .code r.body] (fr :: cs) trivial rfl hro (.nil _ _ _) (Nat.zero_le _)
  have hl1 : w1.heap[l]? = some (.loop r) := p1 hpl l _ hl (by intros; simp)
  have hlt1 : l < w1.heap.size := (Array.getElem?_eq_some_iff.1 hl1).1
  have hbr : (Instr.beginRound l).run P w1 = .ok () { w1 with heap := w1.heap.setIfInBounds l (.loop { r with state := .busy }) } := by
    simp [Instr.beginRound, Instr.getLoop, getObj, setObj, bind, Sem.bind, pure, Sem.run, hl1, hst]
  have hl1b : (w1.heap.setIfInBounds l (.loop { r with state := .busy }))[l]? = some (.loop { r with state := .busy }) := by
    rw [Array.getElem?_setIfInBounds]; simp [hlt1]
  obtain ⟨x2, a2, w2, hR, m2, _, _, _, s2, arr2⟩ := hbody [] b [] (fr :: cs) trivial rfl (fun l' e => by cases e; exact ⟨_, hl1b⟩) (by rw [hd1]; exact .nil _ _ _) (Nat.zero_le _)
  obtain ⟨r2, hl2, like2⟩ := s2.loops l _ hl1b
  have like : LoopLike r2 r := like2
  have her : ∀ j : Option Code, (Instr.endRound l j).run P w2 = .ok (.bool j.isNone) { w2 with heap := w2.heap.setIfInBounds l (.loop { r with state := if j.isNone then .ready else .done, pending := j }) } := by
    intro j
    rw [← like.eq]
    simp [Instr.endRound, Instr.getLoop, getObj, setObj, bind, Sem.bind, pure, Sem.run, hl2]
  have hinv : (applyV (yv l) args).run P w = .ok (.round l r.fn ((r.params.zip args).foldl (fun tmps (t, a) => tmps.setIfInBounds t a) r.tmps) r.assign r.body) w := by
    simp [applyV, yv, Deferred.ofValue, invoke, Instr.yield, Instr.getLoop, getObj, bind, Sem.bind, pure, Sem.run, hl, ha]
  have ejn : (jumpOf x2).isNone = x2.isNormal := by cases x2 <;> rfl
  have hsame : Same w { w2 with heap := w2.heap.setIfInBounds l (.loop { r with state := if x2.isNormal then .ready else .done, pending := jumpOf x2 }) } := by
    have hlt2 : l < w2.heap.size := (Array.getElem?_eq_some_iff.1 hl2).1
    refine ⟨s2.os.trans s1.os, s2.tape.trans s1.tape, s2.output.trans s1.output, ?_, fun i ds hi => ?_, fun i q hi => ?_⟩
    · have h1 := s1.size; have h2 := s2.size; simp at h2 ⊢; omega
    · have hne : i ≠ l := by rintro rfl; rw [hl] at hi; cases hi
      have h1 : (w1.heap.setIfInBounds l (.loop { r with state := .busy }))[i]? = some (.deferred ds) := by
        rw [Array.getElem?_setIfInBounds, if_neg (fun e => hne e.symm)]; exact s1.marks i ds hi
      show (w2.heap.setIfInBounds l _)[i]? = _
      rw [Array.getElem?_setIfInBounds, if_neg (fun e => hne e.symm)]
      exact s2.marks i ds h1
    · by_cases hne : i = l
      · subst hne
        rw [hl] at hi; cases hi
        exact ⟨{ r with state := if x2.isNormal then .ready else .done, pending := jumpOf x2 }, by show (w2.heap.setIfInBounds i _)[i]? = _; rw [Array.getElem?_setIfInBounds]; simp [hlt2], rfl, rfl, rfl, rfl, rfl, rfl⟩
      · have hne' : ¬ l = i := fun e => hne e.symm
        obtain ⟨q1, h1, a1, a2, a3, a4, a5, a6⟩ := s1.loops i q hi
        have h1' : (w1.heap.setIfInBounds l (.loop { r with state := .busy }))[i]? = some (.loop q1) := by rw [Array.getElem?_setIfInBounds, if_neg hne']; exact h1
        obtain ⟨q2, h2, b1, b2, b3, b4, b5, b6⟩ := s2.loops i q1 h1'
        exact ⟨q2, by show (w2.heap.setIfInBounds l _)[i]? = _; rw [Array.getElem?_setIfInBounds, if_neg hne']; exact h2, b1.trans a1, b2.trans a2, b3.trans a3, b4.trans a4, b5.trans a5, b6.trans a6⟩
  refine ⟨.bool x2.isNormal, _, Frame.round l r.fn ((r.params.zip args).foldl (fun tmps (t, a) => tmps.setIfInBounds t a) r.tmps) r.assign r.body .normal, fr :: cs, w, ⟨hsame, hR⟩, ?_, ?_⟩
  · simp [stepG.apply, Sem.runT_eq, hinv]
  · have e0 : Frame.round l r.fn ((r.params.zip args).foldl (fun tmps (t, a) => tmps.setIfInBounds t a) r.tmps) r.assign r.body .normal =
        b.atR { tmps := (r.params.zip args).foldl (fun tmps (t, a) => tmps.setIfInBounds t a) r.tmps, defers := [] } [.code r.assign, .beginRound, .code r.body] := rfl
    rw [e0]
    refine Steps.trans arr1 (.head (stepR_beginRound (l := l) rfl hbr) ?_)
    have h3 := her (jumpOf x2)
    rw [ejn] at h3
    cases x2 with
    | normal => exact Steps.trans arr2 (.one (stepR_round_end (l := l) rfl rfl h3))
    | exit id => obtain ⟨td, e, s⟩ := arr2; exact Steps.trans s (.one (stepR_round_exit (l := l) rfl rfl (by rw [e]; rfl) h3))
    | ret => obtain ⟨td, s⟩ := arr2; exact Steps.trans s (.one (stepR_round_ret (l := l) rfl rfl h3))
theorem cw_rangeFunc {P : Program} {n0 : Nat} {ro : Option Nat} {f : Operand} {params : Array Tmp} {assign body : Code} {Q : Ex → Act → World → Prop} {a : Act} {w : World}
    (h : ∀ (fnid : FuncId) (d : Nat) (hx : Heap) (l : Nat), w.heap.size ≤ l → l + 1 = hx.size → (∀ b, b < w.heap.size → hx[b]? = w.heap[b]?) → (∀ b, w.heap.size ≤ b → (∀ c e fr, hx[b]? ≠ some (.cells c e fr)) ∧ ∀ es k, hx[b]? ≠ some (.map es k)) →
      hx[l]? = some (.loop { state := .ready, pending := none, fn := fnid, tmps := a.tmps, params, assign, body, defers := d }) →
      Goes P (applyV (a.eval f) #[yv l]) { w with heap := hx } fun _ w2 => Same { w with heap := hx } w2 ∧
        ∃ x s, s ≠ LoopState.busy ∧ w2.heap[l]? = some (.loop { state := s, pending := jumpOf x, fn := fnid, tmps := a.tmps, params, assign, body, defers := d }) ∧
          ∀ df, Q x { a with defers := df } { w2 with heap := w2.heap.setIfInBounds l (.loop { state := .exhausted, pending := jumpOf x, fn := fnid, tmps := a.tmps, params, assign, body, defers := d }) }) :
    CW P n0 ro (.rangeFunc f params assign body) Q a w := by
  intro D b k cs hk hb hr hm hn
  -- what enterLoop lays
  obtain ⟨d, hx, l, mark, hrun, hle, hsz, hold, hnew, hloop, hmk⟩ : ∃ (d : Nat) (hx : Heap) (l : Nat) (mark : List Deferred),
      (Instr.enterLoop b.fn a.tmps params assign body b.roundOf).run P w = .ok (l, mark) { w with heap := hx } ∧ w.heap.size ≤ l ∧ l + 1 = hx.size ∧ (∀ i, i < w.heap.size → hx[i]? = w.heap[i]?) ∧
      (∀ i, w.heap.size ≤ i → (∀ c e fr, hx[i]? ≠ some (.cells c e fr)) ∧ ∀ es k, hx[i]? ≠ some (.map es k)) ∧ hx[l]? = some (.loop { state := .ready, pending := none, fn := b.fn, tmps := a.tmps, params, assign, body, defers := d }) ∧
      MOk n0 D (mark ++ a.defers) hx := by
    cases hro : b.roundOf with
    | none =>
      refine ⟨w.heap.size, (w.heap.push (.deferred (some []))).push (.loop { state := .ready, pending := none, fn := b.fn, tmps := a.tmps, params, assign, body, defers := w.heap.size }), w.heap.size + 1, [mk w.heap.size], ?_, by omega, by simp, ?_, ?_, ?_, ?_⟩
      · simp [Instr.enterLoop, newObj, bind, Sem.bind, pure, Sem.run, mk]
      · intro i hi
        rw [Array.getElem?_push, if_neg (by simp; omega), Array.getElem?_push, if_neg (by omega)]
      · intro i hi
        rw [Array.getElem?_push]
        split
        · simp
        · rw [Array.getElem?_push]
          split
          · simp
          · rw [Array.getElem?_eq_none hi]; simp
      · rw [Array.getElem?_push]; simp
      · obtain ⟨ms, e, nd, hms⟩ := hm
        have hlt : ∀ r ∈ ms, r < w.heap.size := fun r hr' => (Array.getElem?_eq_some_iff.1 (hms r hr').2).1
        refine ⟨w.heap.size :: ms, by simp [e], by simp; exact ⟨fun hin => absurd (hlt _ hin) (by omega), nd⟩, ?_⟩
        intro r hr'
        simp only [List.mem_cons] at hr'
        rcases hr' with rfl | hr'
        · refine ⟨hn, ?_⟩
          rw [Array.getElem?_push, if_neg (by simp), Array.getElem?_push]; simp
        · refine ⟨(hms r hr').1, ?_⟩
          have := hlt r hr'
          rw [Array.getElem?_push, if_neg (by simp; omega), Array.getElem?_push, if_neg (by omega)]
          exact (hms r hr').2
    | some l0 =>
      obtain ⟨r0, hr0⟩ := hr l0 (by rw [← hb, hro])
      refine ⟨r0.defers, w.heap.push (.loop { state := .ready, pending := none, fn := b.fn, tmps := a.tmps, params, assign, body, defers := r0.defers }), w.heap.size, [], ?_, by omega, by simp, ?_, ?_, ?_, ?_⟩
      · simp [Instr.enterLoop, Instr.getLoop, getObj, newObj, bind, Sem.bind, pure, Sem.run, hr0]
      · intro i hi
        rw [Array.getElem?_push, if_neg (by omega)]
      · intro i hi
        rw [Array.getElem?_push]
        split
        · simp
        · rw [Array.getElem?_eq_none hi]; simp
      · rw [Array.getElem?_push]; simp
      · obtain ⟨ms, e, nd, hms⟩ := hm
        refine ⟨ms, by simp [e], nd, fun r hr' => ⟨(hms r hr').1, ?_⟩⟩
        have hlt : r < w.heap.size := (Array.getElem?_eq_some_iff.1 (hms r hr').2).1
        rw [Array.getElem?_push, if_neg (by omega)]
        exact (hms r hr').2
  have hs0 : Same w { w with heap := hx } := .of_heap rfl rfl rfl (by show w.heap.size ≤ hx.size; omega) fun i o hi _ => by
    have hlt : i < w.heap.size := (Array.getElem?_eq_some_iff.1 hi).1
    show hx[i]? = _
    rw [hold i hlt]; exact hi
  let a2 : Act := { a with defers := mark ++ a.defers }
  let fr1 : Frame := b.atR a2 (.inRangeFunc l :: k)
  obtain ⟨v, w2, f1, c1, w1, ⟨hs1, x, s, hbusy, hl2, hQ⟩, hap, hst⟩ := h b.fn d hx l hle hsz hold hnew hloop fr1 cs hk (.inr ⟨_, _, rfl⟩)
  have hlt2 : l < w2.heap.size := (Array.getElem?_eq_some_iff.1 hl2).1
  let w3 : World := { w2 with heap := w2.heap.setIfInBounds l (.loop { state := .exhausted, pending := jumpOf x, fn := b.fn, tmps := a.tmps, params, assign, body, defers := d }) }
  have hend : (Instr.endLoop l).run P w2 = .ok (jumpOf x) w3 := by
    simp [Instr.endLoop, Instr.getLoop, getObj, setObj, bind, Sem.bind, pure, Sem.run, hl2, w3]
    exact fun e => absurd e hbusy
  have hs3 : Same w w3 := by
    have h02 := hs0.trans hs1
    refine ⟨h02.os, h02.tape, h02.output, by have := h02.size; simp [w3]; exact this, fun i ds hi => ?_, fun i q hi => ?_⟩
    · have hlt : i < w.heap.size := (Array.getElem?_eq_some_iff.1 hi).1
      show (w2.heap.setIfInBounds l _)[i]? = _
      rw [Array.getElem?_setIfInBounds, if_neg (by omega)]
      exact h02.marks i ds hi
    · have hlt : i < w.heap.size := (Array.getElem?_eq_some_iff.1 hi).1
      obtain ⟨q', hq', rest⟩ := h02.loops i q hi
      refine ⟨q', ?_, rest⟩
      show (w2.heap.setIfInBounds l _)[i]? = _
      rw [Array.getElem?_setIfInBounds, if_neg (by omega)]
      exact hq'
  have hm3 : MOk n0 D a2.defers w3.heap := by
    have h1 : MOk n0 D (mark ++ a.defers) w2.heap := MOk.same (w := { w with heap := hx }) hmk hs1
    obtain ⟨ms, e, nd, hms⟩ := h1
    refine ⟨ms, e, nd, fun r hr' => ⟨(hms r hr').1, ?_⟩⟩
    have hne : l ≠ r := by rintro rfl; have := (hms _ hr').2; rw [hl2] at this; cases this
    show (w2.heap.setIfInBounds l _)[r]? = _
    rw [Array.getElem?_setIfInBounds, if_neg hne]
    exact (hms r hr').2
  have st0 : step P (lone (b.atR a (.code (.rangeFunc f params assign body) :: k)) cs w) = .next (lone f1 c1 w1) := by
    refine step_lone_go ?_
    have heval : ({ fn := b.fn, tmps := a.tmps, todo := .inRangeFunc l :: k, defers := mark ++ a.defers, mode := .run, kind := b.kind, roundOf := b.roundOf } : Frame).eval = a.eval := by funext z; cases z <;> rfl
    have hsem : (do let d ← resolve ({ fn := b.fn, tmps := a.tmps, todo := .inRangeFunc l :: k, defers := mark ++ a.defers, mode := .run, kind := b.kind, roundOf := b.roundOf } : Frame).eval { callee := .value f, args := #[.const (.func (.yield l) #[] #[])], argTypes := #[] } 0; invoke d.target d.args) =
        applyV (a.eval f) #[yv l] := by
      rw [heval]; simp [applyV, resolve, yv, Act.eval]
    simp only [stepG, stepG.exec, Frame.atR, Sem.runT_eq, hrun]
    rw [hsem]
    simpa [fr1, Frame.atR, a2] using hap
  have st2 : step P (lone (fr1.finish v) cs w2) = .next (lone (b.atR a2 ((jumpOf x).map Item.code |>.toList |> (· ++ k))) cs w3) := by
    refine step_lone_go ?_
    simp [fr1, Frame.finish, Frame.atR, stepG, stepG.exec, Sem.runT_eq, hend]
  refine ⟨x, a2, w3, hQ _, hm3, fun hh => by simp [noRF] at hh, fun hh => by simp [plainC] at hh, fun _ _ => rfl, hs3, ?_⟩
  have reach : Steps P (lone (b.atR a (.code (.rangeFunc f params assign body) :: k)) cs w) (lone (b.atR a2 ((jumpOf x).map Item.code |>.toList |> (· ++ k))) cs w3) := .head st0 (Steps.trans hst (.one st2))
  cases x with
  | normal => exact reach
  | exit id => exact ⟨k, rfl, reach⟩
  | ret => exact ⟨k, reach⟩
end Go.Sx
namespace Go.Sx
open Go
structure Sl where
  a : Option Addr
  len : Nat
  cap : Nat
inductive Ty where
  | int (k : IntKind) | bool | ptr | sl | str | val | nil
  | cons (a b : Ty)
  | agg (t : Ty)
  | tup (t : Ty)
@[reducible] def Ty.T : Ty → Type
  | .int _ => Int
  | .bool => Bool
  | .ptr => Option Addr
  | .sl => Sl
  | .str => ByteArray
  | .val => Value
  | .nil => Unit
  | .cons a b => a.T × b.T
  | .agg t => t.T
  | .tup t => t.T
def Ty.ev : (t : Ty) → t.T → Value × List Value
  | .int k, n => (.int k n, [])
  | .bool, b => (.bool b, [])
  | .ptr, p => (.pointer p, [])
  | .sl, s => (.slice s.a s.len s.cap, [])
  | .str, s => (.string s, [])
  | .val, v => (v, [])
  | .nil, _ => (undef, [])
  | .cons a b, x => (undef, (a.ev x.1).1 :: (b.ev x.2).2)
  | .agg t, x => (.agg (t.ev x).2.toArray, [])
  | .tup t, x => (.tuple (t.ev x).2.toArray, [])
def Ty.enc (t : Ty) (x : t.T) : Value := (t.ev x).1
def Ty.vals (t : Ty) (x : t.T) : List Value := (t.ev x).2
def tyLen : Ty → Nat
  | .cons _ b => tyLen b + 1
  | _ => 0
theorem vals_length : ∀ (t : Ty) (x : t.T), (t.vals x).length = tyLen t
  | .cons a b, x => by simp only [Ty.vals, Ty.ev, List.length_cons, tyLen]; rw [← vals_length b x.2]; rfl
  | .int _, _ | .bool, _ | .ptr, _ | .sl, _ | .str, _ | .val, _ | .nil, _ | .agg _, _ | .tup _, _ => rfl
def appTy : Ty → Ty → Ty
  | .cons a b, c => .cons a (appTy b c)
  | _, c => c
def repTy : Nat → Ty → Ty
  | 0, _ => .nil
  | n + 1, t => appTy t (repTy n t)
def leafTy : TypeDesc → Ty
  | .int k => .int k
  | .bool => .bool
  | .string => .str
  | .pointer _ => .ptr
  | .slice _ => .sl
  | _ => .val
def cellsTy (P : Program) : Nat → TypeId → Ty
  | 0, _ => .nil
  | n + 1, t => match P.underlying t with
    | some (.struct fs) => fs.toList.foldr (fun f acc => appTy (cellsTy P n f.type) acc) .nil
    | some (.array len e) => repTy len (cellsTy P n e)
    | some d => .cons (leafTy d) .nil
    | none => .nil
def valTy (P : Program) (t : TypeId) : Ty :=
  match P.underlying t with
  | some (.struct _) | some (.array _ _) => .agg (cellsTy P 6 t)
  | some (.tuple ts) => .tup (ts.toList.foldr (fun t acc => .cons (match P.underlying t with | some (.struct _) | some (.array _ _) => .agg (cellsTy P 6 t) | some d => leafTy d | none => .val) acc) .nil)
  | some d => leafTy d
  | none => .val
def fF : HP := fun _ => False
def unp : (t : Ty) → (Value → (t.T → HP) → HP) × (List Value → (t.T → HP) → HP)
  | .int k => (fun v K => match v with | .int k' n => (bif k == k' then K n else fF) | _ => fF, fun _ _ => fF)
  | .bool => (fun v K => match v with | .bool b => K b | _ => fF, fun _ _ => fF)
  | .ptr => (fun v K => match v with | .pointer p => K p | _ => fF, fun _ _ => fF)
  | .sl => (fun v K => match v with | .slice a l c => K ⟨a, l, c⟩ | _ => fF, fun _ _ => fF)
  | .str => (fun v K => match v with | .string s => K s | _ => fF, fun _ _ => fF)
  | .val => (fun v K => K v, fun _ _ => fF)
  | .nil => (fun _ _ => fF, fun vs K => match vs with | [] => K () | _ => fF)
  | .cons a b => (fun _ _ => fF, fun vs K => match vs with | v :: r => (unp a).1 v fun x => (unp b).2 r fun y => K (x, y) | [] => fF)
  | .agg t => (fun v K => match v with | .agg cs => (unp t).2 cs.toList K | _ => fF, fun _ _ => fF)
  | .tup t => (fun v K => match v with | .tuple cs => (unp t).2 cs.toList K | _ => fF, fun _ _ => fF)
theorem unp_sound : ∀ (t : Ty), (∀ v K h, (unp t).1 v K h → ∃ x, K x h ∧ v = t.enc x) ∧ (∀ vs K h, (unp t).2 vs K h → ∃ x, K x h ∧ vs = t.vals x)
  | .int k => ⟨fun v K h hh => by
      simp only [unp] at hh
      split at hh
      · rename_i k' n
        cases hk : k == k' with
        | false => rw [hk] at hh; exact hh.elim
        | true =>
          rw [hk] at hh
          have e : k = k' := by simpa using hk
          subst e; exact ⟨n, hh, rfl⟩
      · exact hh.elim, fun _ _ _ hh => hh.elim⟩
  | .bool => ⟨fun v K h hh => by
      simp only [unp] at hh; split at hh
      · exact ⟨_, hh, rfl⟩
      · exact hh.elim, fun _ _ _ hh => hh.elim⟩
  | .ptr => ⟨fun v K h hh => by
      simp only [unp] at hh; split at hh
      · exact ⟨_, hh, rfl⟩
      · exact hh.elim, fun _ _ _ hh => hh.elim⟩
  | .sl => ⟨fun v K h hh => by
      simp only [unp] at hh; split at hh
      · exact ⟨_, hh, rfl⟩
      · exact hh.elim, fun _ _ _ hh => hh.elim⟩
  | .str => ⟨fun v K h hh => by
      simp only [unp] at hh; split at hh
      · exact ⟨_, hh, rfl⟩
      · exact hh.elim, fun _ _ _ hh => hh.elim⟩
  | .val => ⟨fun v K h hh => ⟨v, hh, rfl⟩, fun _ _ _ hh => hh.elim⟩
  | .nil => ⟨fun _ _ _ hh => hh.elim, fun vs K h hh => by
      simp only [unp] at hh; split at hh
      · exact ⟨_, hh, rfl⟩
      · exact hh.elim⟩
  | .cons a b => ⟨fun _ _ _ hh => hh.elim, fun vs K h hh => by
      simp only [unp] at hh; split at hh
      · obtain ⟨x, hx, ex⟩ := (unp_sound a).1 _ _ _ hh
        obtain ⟨y, hy, ey⟩ := (unp_sound b).2 _ _ _ hx
        exact ⟨(x, y), hy, by rw [ex, ey]; rfl⟩
      · exact hh.elim⟩
  | .agg t => ⟨fun v K h hh => by
      simp only [unp] at hh; split at hh
      · obtain ⟨x, hx, ex⟩ := (unp_sound t).2 _ _ _ hh
        exact ⟨x, hx, by simp only [Ty.enc, Ty.ev]; rw [← show _ = (t.ev x).2 from ex]⟩
      · exact hh.elim, fun _ _ _ hh => hh.elim⟩
  | .tup t => ⟨fun v K h hh => by
      simp only [unp] at hh; split at hh
      · obtain ⟨x, hx, ex⟩ := (unp_sound t).2 _ _ _ hh
        exact ⟨x, hx, by simp only [Ty.enc, Ty.ev]; rw [← show _ = (t.ev x).2 from ex]⟩
      · exact hh.elim, fun _ _ _ hh => hh.elim⟩
def cell (h : Heap) (a : Addr) : Option Value :=
  match h[a.block]? with
  | some (.cells c _ _) => if a.spot.isSome then none else c[a.off]?
  | _ => none
def wr (h : Heap) (a : Addr) : Prop := ∃ c t, h[a.block]? = some (.cells c t (0, 0)) ∧ a.off < c.size ∧ a.spot = none
def setC (h : Heap) (a : Addr) (v : Value) : Heap :=
  h.modify a.block fun
    | .cells c e f => .cells (if a.spot.isSome then c else c.setIfInBounds a.off v) e f
    | o => o
theorem cell?_eq (w : World) (a : Addr) : w.cell? a = cell w.heap a := rfl
def CellsAt (h : Heap) (a : Addr) : Nat → List Value → Prop
  | _, [] => True
  | i, v :: vs => cell h (a.add i) = some v ∧ CellsAt h a (i + 1) vs
def ldT (t : Ty) (a : Addr) (K : t.T → HP) : HP := fun h => ∃ x : t.T, cell h a = some (t.enc x) ∧ K x h
def ldA (t : Ty) (a : Addr) (K : t.T → HP) : HP := fun h => ∃ x : t.T, CellsAt h a 0 (t.vals x) ∧ K x h
def st1 (a : Addr) (v : Value) (K : HP) : HP := fun h => wr h a ∧ K (setC h a v)
def leafB : Value → Bool
  | .agg _ => false
  | .tuple _ => false
  | _ => true
def stA (a : Addr) : Nat → List Value → HP → HP
  | _, [], K => K
  | i, v :: vs, K => fun h =>
    match leafB v with
    | true => st1 (a.add i) v (stA a (i + 1) vs K) h
    | false => False
def nn (p : Option Addr) (K : Addr → HP) : HP :=
  match p with
  | some a => K a
  | none => fF
def sx (s : Option Addr) (len : Nat) (i : Int) (sz : Nat) (K : Addr → HP) : HP := fun h => ∃ a, s = some a ∧ 0 ≤ i ∧ i < len ∧ K (a.add (i.toNat * sz)) h
def ax (a : Addr) (len : Nat) (i : Int) (sz : Nat) (K : Addr → HP) : HP := fun h => 0 ≤ i ∧ i < len ∧ K (a.add (i.toNat * sz)) h
def six (s : ByteArray) (i : Int) (K : Int → HP) : HP := fun h => ∃ b, 0 ≤ i ∧ s[i.toNat]? = some b ∧ K b.toNat h
def nw (cs : Array Value) (t : TypeId) (K : Nat → HP) : HP := fun h => K h.size (h.push (.cells cs t))
def brB (b : Bool) (A B : HP) : HP :=
  match b with
  | true => A
  | false => B
def nz (y : Int) (K : HP) : HP := fun h => y ≠ 0 ∧ K h
def ge0 (y : Int) (K : HP) : HP := fun h => 0 ≤ y ∧ K h
def pickV (t : Bool) (x y : Value) : Value :=
  match x, y with
  | .bool p, .bool q => .bool (bif t then p else q)
  | x, y => bif t then x else y
def slR (s : Sl) (l hh sz : Nat) : Sl := ⟨if s.cap = l then s.a else s.a.map (·.add (l * sz)), hh - l, s.cap - l⟩
def slB (s : Sl) (l hh : Int) (sz : Nat) (K : Sl → HP) : HP := fun h => 0 ≤ hh ∧ hh ≤ s.cap ∧ 0 ≤ l ∧ l ≤ hh ∧ K (slR s l.toNat hh.toNat sz) h
def slL (s : Sl) (l : Int) (sz : Nat) (K : Sl → HP) : HP := fun h => 0 ≤ l ∧ l ≤ s.len ∧ K (slR s l.toNat s.len sz) h
def slH (s : Sl) (hh : Int) (sz : Nat) (K : Sl → HP) : HP := fun h => 0 ≤ hh ∧ hh ≤ s.cap ∧ K (slR s 0 hh.toNat sz) h
def slM (s : Sl) (l hh mx : Int) (sz : Nat) (K : Sl → HP) : HP := fun h =>
  0 ≤ mx ∧ mx ≤ s.cap ∧ 0 ≤ hh ∧ hh ≤ mx ∧ 0 ≤ l ∧ l ≤ hh ∧ K ⟨if mx.toNat = l.toNat then s.a else s.a.map (·.add (l.toNat * sz)), hh.toNat - l.toNat, mx.toNat - l.toNat⟩ h
def isNilFn : Value → Bool
  | .nilFunc => true
  | _ => false
def fnE (v : Value) (K : Bool → HP) : HP := fun h => (v = .nilFunc ∨ ∃ f a b, v = .func f a b) ∧ K (isNilFn v) h
def zrow (z : Array Value) (n : Nat) : Array Value := (Array.range n).map (z[· % z.size]!)
def mks (e : TypeId) (sz by_ : Nat) (z : Array Value) (len cap : Int) (K : Sl → HP) : HP := fun h =>
  0 ≤ len ∧ len ≤ cap ∧ by_ * cap ≤ 2 ^ 48 ∧ cap < 2 ^ 63 ∧ K ⟨some ⟨h.size, 0, none⟩, len.toNat, cap.toNat⟩ (h.push (.cells (if cap.toNat * sz = 0 then #[] else zrow z (cap.toNat * sz)) e))
def FirstCells (h : Heap) (a : Option Addr) (n : Nat) (vs : List Value) : Prop :=
  match a with
  | some b => vs.length = n ∧ CellsAt h b 0 vs
  | none => vs = []
def apd (e : TypeId) (sz by_ : Nat) (z : Array Value) (s x : Sl) (K : Sl → HP) : HP := fun h =>
  ∃ news, FirstCells h x.a (x.len * sz) news ∧
    (s.len + x.len ≤ s.cap → (match s.a with | some a => stA (a.add (s.len * sz)) 0 news (K ⟨some a, s.len + x.len, s.cap⟩) h | none => K ⟨none, s.len + x.len, s.cap⟩ h)) ∧
    (s.cap < s.len + x.len → (s.len + x.len) * by_ ≤ 140737488355328 ∧ 0 < by_ ∧ ∃ olds, FirstCells h s.a (s.len * sz) olds ∧
        ∀ nc, s.len + x.len ≤ nc → nc < 2 ^ 63 → K ⟨some ⟨h.size, 0, none⟩, s.len + x.len, nc⟩ (h.push (.cells (olds.toArray ++ news.toArray ++ Builtin.zeroCells z (nc - (s.len + x.len))) e)))
def apz (e : TypeId) (sz by_ : Nat) (z : Array Value) (s : Sl) (n : Int) (K : Sl → HP) : HP := fun h =>
  0 ≤ n ∧ n * by_ ≤ 2 ^ 47 ∧ 0 < by_ ∧ 0 < sz ∧
    (s.len + n.toNat ≤ s.cap → (match s.a with | some a => stA (a.add (s.len * sz)) 0 (if n.toNat * sz = 0 then #[] else Builtin.zeroCells z n.toNat).toList (K ⟨some a, s.len + n.toNat, s.cap⟩) h | none => K ⟨none, s.len + n.toNat, s.cap⟩ h)) ∧
    (s.cap < s.len + n.toNat → (s.len + n.toNat) * by_ ≤ 140737488355328 ∧ ∃ olds, FirstCells h s.a (s.len * sz) olds ∧
        ∀ nc, s.len + n.toNat ≤ nc → nc < 2 ^ 63 → K ⟨some ⟨h.size, 0, none⟩, s.len + n.toNat, nc⟩ (h.push (.cells (olds.toArray ++ (if n.toNat * sz = 0 then #[] else Builtin.zeroCells z n.toNat) ++ Builtin.zeroCells z (nc - (s.len + n.toNat))) e)))
def clr (z : Array Value) (s : Sl) (K : HP) : HP := fun h =>
  match s.a with
  | none => K h
  | some a => stA a 0 (Builtin.zeroCells z s.len).toList K h
def hasKV (es : List MapEntry) (κ : IntKind) (x : Int) (v : Value) : Prop := ∃ e ∈ es, e.key = .int κ x ∧ e.val = v
def mapAt (h : Heap) (b : Nat) (κ : IntKind) (es : Array MapEntry) (clk : Nat) : Prop :=
  h[b]? = some (.map es clk) ∧ (∀ e ∈ es.toList, ∃ y, e.key = .int κ y) ∧ es.toList.Pairwise (fun a b => a.key ≠ b.key)
def mkm (K : Nat → HP) : HP := fun h => K h.size (h.push (.map #[] 0))
def mget (τ : Ty) (κ : IntKind) (z : Value) (m : Value) (x : Int) (K : τ.T → HP) : HP := fun h =>
  ∃ b es clk, m = .map (some b) ∧ mapAt h b κ es clk ∧ ∃ v : τ.T, (((∀ e ∈ es.toList, e.key ≠ .int κ x) ∧ z = τ.enc v) ∨ hasKV es.toList κ x (τ.enc v)) ∧ K v h
def mput (κ : IntKind) (m : Value) (x : Int) (v : Value) (K : HP) : HP := fun h =>
  ∃ b es clk, m = .map (some b) ∧ mapAt h b κ es clk ∧ ∀ es' clk', mapAt (h.setIfInBounds b (.map es' clk')) b κ es' clk' →
    (∀ y u, hasKV es'.toList κ y u ↔ (y = x ∧ u = v) ∨ (y ≠ x ∧ hasKV es.toList κ y u)) → K (h.setIfInBounds b (.map es' clk'))
def cpy (sz : Nat) (d s : Sl) (K : Int → HP) : HP := fun h =>
  ∃ vs, FirstCells h s.a (Nat.min s.len d.len * sz) vs ∧ (match d.a with | some a => stA a 0 vs (K (Nat.min s.len d.len)) h | none => K (Nat.min s.len d.len) h)
def CallsH (P : Program) (f : FuncId) (args : Array Value) (h : Heap) (R : Value → HP) : Prop :=
  ∀ w : World, w.heap = h → Goes P (callFunc f args) w fun v w' => Same w w' ∧ R v w'.heap
def CallV (P : Program) (fv : Value) (args : Array Value) (h : Heap) (R : Value → HP) : Prop :=
  ∀ w : World, w.heap = h → Goes P (applyV fv args) w fun v w' => Same w w' ∧ R v w'.heap
theorem CallsH.mono {P : Program} {f : FuncId} {args : Array Value} {h : Heap} {R R' : Value → HP} (c : CallsH P f args h R) (hr : ∀ v h', R v h' → R' v h') : CallsH P f args h R' :=
  fun w e => (c w e).mono fun v w' ⟨s, r⟩ => ⟨s, hr _ _ r⟩
theorem CallV.mono {P : Program} {fv : Value} {args : Array Value} {h : Heap} {R R' : Value → HP} (c : CallV P fv args h R) (hr : ∀ v h', R v h' → R' v h') : CallV P fv args h R' :=
  fun w e => (c w e).mono fun v w' ⟨s, r⟩ => ⟨s, hr _ _ r⟩
def callT (P : Program) (f : FuncId) (args : Array Value) (t : Ty) (K : t.T → HP) : HP := fun h => CallsH P f args h fun v h' => ∃ x : t.T, v = t.enc x ∧ K x h'
def callF (P : Program) (fv : Value) (args : Array Value) (t : Ty) (K : t.T → HP) : HP := fun h => CallV P fv args h fun v h' => ∃ x : t.T, v = t.enc x ∧ K x h'
end Go.Sx
