/-
  The end of a call; a round of a range over a function; the statement itself. Nothing here names a program.
-/
import Derived.Test.YtchedlkmgahicaaSx1
set_option linter.unusedVariables false
set_option linter.unusedSimpArgs false
namespace Go.Sx
open Go

def Marked (n0 : Nat) (h h' : Heap) : Prop := h'.size = h.size ∧ ∀ b : Nat, (b < n0 ∨ ∀ ds, h[b]? ≠ some (.deferred ds)) → h'[b]? = h[b]?

theorem Marked.refl (n0 : Nat) (h : Heap) : Marked n0 h h := ⟨rfl, fun _ _ => rfl⟩

theorem run_takeDeferred' {P : Program} {w : World} {r : Nat} {ds : List Deferred} (h : w.heap[r]? = some (.deferred (some ds))) :
    (Instr.takeDeferred r).run P w = .ok ds { w with heap := w.heap.setIfInBounds r (.deferred none) } := by
  simp [Instr.takeDeferred, getObj, setObj, bind, Sem.bind, pure, Sem.run, h]

theorem unwind_marks {P : Program} {n0 : Nat} : ∀ (ms : List Nat) (fr : Frame) (cs : List Frame) (w : World), fr.mode = .returning → fr.defers = ms.map mk → ms.Nodup →
    (∀ r ∈ ms, n0 ≤ r ∧ w.heap[r]? = some (.deferred (some []))) →
    ∃ h', Marked n0 w.heap h' ∧ (ms = [] → h' = w.heap) ∧ Steps P (lone fr cs w) (lone { fr with defers := [] } cs { w with heap := h' }) := by
  intro ms
  induction ms with
  | nil =>
    intro fr cs w hm hd _ _
    refine ⟨w.heap, .refl _ _, fun _ => rfl, ?_⟩
    have : { fr with defers := [] } = fr := by cases fr; simp at hd ⊢; exact hd
    rw [this]; exact .refl _ _
  | cons r ms ih =>
    intro fr cs w hm hd hn hb
    have hr := hb r (by simp)
    have hne : ∀ x ∈ ms, x ≠ r := fun x hx e => by simp at hn; exact hn.1 (e ▸ hx)
    obtain ⟨h', hM, _, hs⟩ := ih { fr with defers := ms.map mk } cs { w with heap := w.heap.setIfInBounds r (.deferred none) } hm rfl (by simp at hn; exact hn.2)
      (fun x hx => ⟨(hb x (by simp [hx])).1, by
        have := (hb x (by simp [hx])).2
        show (w.heap.setIfInBounds r (.deferred none))[x]? = _
        rw [Array.getElem?_setIfInBounds, if_neg (fun e => hne x hx e.symm)]; exact this⟩)
    refine ⟨h', ⟨?_, ?_⟩, fun e => (by cases e), .head (step_lone_go ?_) hs⟩
    · rw [hM.1]; simp
    · intro b hcond
      have hbr : b ≠ r := by
        rintro rfl
        rcases hcond with h | h
        · omega
        · exact h _ hr.2
      have e1 : (w.heap.setIfInBounds r (.deferred none))[b]? = w.heap[b]? := by rw [Array.getElem?_setIfInBounds, if_neg (fun e => hbr e.symm)]
      rw [← e1]
      refine hM.2 b ?_
      rcases hcond with h | h
      · exact .inl h
      · exact .inr fun ds e => h ds (by rw [← e1]; exact e)
    · obtain ⟨fn, tmps, todo, defers, mode, kind, ro⟩ := fr
      simp only at hm hd
      subst hm hd
      simp [stepG, unwind, mk, Sem.runT_eq, run_takeDeferred' hr.2]

theorem calls_of_cw {P : Program} {f : FuncId} {fn : Func} {c : Code} {args : Array Value} {w : World} {R : Value → World → Prop} (hf : P.funcs[f]? = some fn) (hb : fn.body = some c)
    (h : CW P w.heap.size none c (fun x a w' => (x = .normal ∨ x = .ret) ∧ ∀ h'', (noRF c = true → h'' = w'.heap) → Marked w.heap.size w'.heap h'' →
        ∃ v, (results fn a.tmps).run P { w' with heap := h'' } = .ok v { w' with heap := h'' } ∧ R v { w' with heap := h'' })
      { tmps := args ++ Array.replicate (fn.ntmps - args.size) undef, defers := [] } w) :
    Calls P f args w fun e w' => ∃ v, e = .returned v ∧ R v w' ∧ Same w w' := by
  intro cs
  obtain ⟨x, a', w', ⟨hx, hres⟩, ⟨ms, hd, hnd, hms⟩, hno, -, -, hs, arr⟩ := h [] (Frame.enter P f args .normal) [] cs trivial rfl (fun _ e => by cases e) (.nil _ _ _) (Nat.le_refl _)
  rw [List.append_nil] at hd
  have e0 : Frame.enter P f args .normal = (Frame.enter P f args .normal).atR { tmps := args ++ Array.replicate (fn.ntmps - args.size) undef, defers := [] } [.code c] := by
    simp [Frame.enter, Frame.atR, hf, hb]
  have reach : ∃ td, Steps P (lone (Frame.enter P f args .normal) cs w) (lone { (Frame.enter P f args .normal).atR a' td with mode := .returning } cs w') := by
    rw [e0]
    rcases hx with rfl | rfl
    · exact ⟨[], Steps.trans arr (.one (stepR_end rfl))⟩
    · obtain ⟨td, s⟩ := arr; exact ⟨_, Steps.trans s (.one (stepR_ret rfl))⟩
  obtain ⟨td, st⟩ := reach
  obtain ⟨h'', hM, hnil, st2⟩ := unwind_marks (P := P) (n0 := w.heap.size) ms { (Frame.enter P f args .normal).atR a' td with mode := .returning } cs w' rfl hd hnd hms
  obtain ⟨v, hrun, hR⟩ := hres h'' (fun hn => hnil (by
    have e := hno hn
    rw [hd] at e
    cases ms with
    | nil => rfl
    | cons r ms => simp at e)) hM
  have hsame : Same w { w' with heap := h'' } := by
    refine ⟨hs.os, hs.tape, hs.output, by show w.heap.size ≤ h''.size; rw [hM.1]; exact hs.size, fun b ds hb => ?_, fun b r hb => ?_⟩
    · have hlt : b < w.heap.size := by
        rcases Nat.lt_or_ge b w.heap.size with h' | h'
        · exact h'
        · simp [Array.getElem?_eq_none h'] at hb
      show h''[b]? = _
      rw [hM.2 b (.inl hlt)]; exact hs.marks b ds hb
    · have hlt : b < w.heap.size := by
        rcases Nat.lt_or_ge b w.heap.size with h' | h'
        · exact h'
        · simp [Array.getElem?_eq_none h'] at hb
      obtain ⟨r', hr', rest⟩ := hs.loops b r hb
      exact ⟨r', by show h''[b]? = _; rw [hM.2 b (.inl hlt)]; exact hr', rest⟩
  exact ⟨.returned v, { w' with heap := h'' }, _, ⟨v, rfl, hR, hsame⟩, Steps.trans st st2, rfl, rfl, rfl, rfl, fn, hf, hrun⟩

def applyV (fv : Value) (args : Array Value) : Sem Next := do let d ← Deferred.ofValue fv args; invoke d.target d.args

def yv (l : Nat) : Value := .func (.yield l) #[] #[]

def jumpOf : Ex → Option Code
  | .normal => none
  | .exit id => some (.exit id)
  | .ret => some .ret

def Ex.isNormal : Ex → Bool
  | .normal => true
  | _ => false

def LoopLike (r' r : Loop) : Prop := r'.fn = r.fn ∧ r'.tmps = r.tmps ∧ r'.params = r.params ∧ r'.assign = r.assign ∧ r'.body = r.body ∧ r'.defers = r.defers

theorem LoopLike.eq {r' r : Loop} (h : LoopLike r' r) (s : LoopState) (j : Option Code) : ({ r' with state := s, pending := j } : Loop) = { r with state := s, pending := j } := by
  obtain ⟨a, b, c, d, e, f⟩ := h
  cases r; cases r'; simp only at a b c d e f; subst a b c d e f; rfl

theorem goes_yield {P : Program} {w : World} {l : Nat} {r : Loop} {args : Array Value} {R : Value → World → Prop} (hl : w.heap[l]? = some (.loop r)) (hst : r.state = .ready) (ha : args.size = r.params.size)
    (hpl : plainC r.assign = true)
    (h : CW P 0 (some l) r.assign (fun x a w1 => x = .normal ∧ a.defers = [] ∧
        CW P 0 (some l) r.body (fun x a w2 => R (.bool x.isNormal) { w2 with heap := w2.heap.setIfInBounds l (.loop { r with state := if x.isNormal then .ready else .done, pending := jumpOf x }) })
          a { w1 with heap := w1.heap.setIfInBounds l (.loop { r with state := .busy }) })
      { tmps := (r.params.zip args).foldl (fun tmps (t, a) => tmps.setIfInBounds t a) r.tmps, defers := [] } w) :
    Goes P (applyV (yv l) args) w (fun v w' => Same w w' ∧ R v w') := by
  intro fr cs hk ht
  let b : Frame := { fn := r.fn, tmps := #[], todo := [], defers := [], mode := .run, kind := .normal, roundOf := some l }
  have hro : RoOk (some l) w := fun l' e => by cases e; exact ⟨r, hl⟩
  obtain ⟨x1, a1, w1, ⟨rfl, hd1, hbody⟩, m1, _, p1, _, s1, arr1⟩ := h [] b [.beginRound, .code r.body] (fr :: cs) trivial rfl hro (.nil _ _ _) (Nat.zero_le _)
  have hl1 : w1.heap[l]? = some (.loop r) := p1 hpl l _ hl (by intros; simp)
  have hlt1 : l < w1.heap.size := (Array.getElem?_eq_some_iff.1 hl1).1
  have hbr : (Instr.beginRound l).run P w1 = .ok () { w1 with heap := w1.heap.setIfInBounds l (.loop { r with state := .busy }) } := by
    simp [Instr.beginRound, Instr.getLoop, getObj, setObj, bind, Sem.bind, pure, Sem.run, hl1, hst]
  have hl1b : (w1.heap.setIfInBounds l (.loop { r with state := .busy }))[l]? = some (.loop { r with state := .busy }) := by
    rw [Array.getElem?_setIfInBounds]; simp [hlt1]
  obtain ⟨x2, a2, w2, hR, m2, _, _, _, s2, arr2⟩ := hbody [] b [] (fr :: cs) trivial rfl (fun l' e => by cases e; exact ⟨_, hl1b⟩) (by rw [hd1]; exact .nil _ _ _) (Nat.zero_le _)
  obtain ⟨r2, hl2, like2⟩ := s2.loops l _ hl1b
  have like : LoopLike r2 r := like2
  have her : ∀ j : Option Code, (Instr.endRound l j).run P w2 = .ok (.bool j.isNone) { w2 with heap := w2.heap.setIfInBounds l (.loop { r with state := if j.isNone then .ready else .done, pending := j }) } := by
    intro j
    rw [← like.eq]
    simp [Instr.endRound, Instr.getLoop, getObj, setObj, bind, Sem.bind, pure, Sem.run, hl2]
  have hinv : (applyV (yv l) args).run P w = .ok (.round l r.fn ((r.params.zip args).foldl (fun tmps (t, a) => tmps.setIfInBounds t a) r.tmps) r.assign r.body) w := by
    simp [applyV, yv, Deferred.ofValue, invoke, Instr.yield, Instr.getLoop, getObj, bind, Sem.bind, pure, Sem.run, hl, ha]
  have ejn : (jumpOf x2).isNone = x2.isNormal := by cases x2 <;> rfl
  have hsame : Same w { w2 with heap := w2.heap.setIfInBounds l (.loop { r with state := if x2.isNormal then .ready else .done, pending := jumpOf x2 }) } := by
    have hlt2 : l < w2.heap.size := (Array.getElem?_eq_some_iff.1 hl2).1
    refine ⟨s2.os.trans s1.os, s2.tape.trans s1.tape, s2.output.trans s1.output, ?_, fun i ds hi => ?_, fun i q hi => ?_⟩
    · have h1 := s1.size; have h2 := s2.size; simp at h2 ⊢; omega
    · have hne : i ≠ l := by rintro rfl; rw [hl] at hi; cases hi
      have h1 : (w1.heap.setIfInBounds l (.loop { r with state := .busy }))[i]? = some (.deferred ds) := by
        rw [Array.getElem?_setIfInBounds, if_neg (fun e => hne e.symm)]; exact s1.marks i ds hi
      show (w2.heap.setIfInBounds l _)[i]? = _
      rw [Array.getElem?_setIfInBounds, if_neg (fun e => hne e.symm)]
      exact s2.marks i ds h1
    · by_cases hne : i = l
      · subst hne
        rw [hl] at hi; cases hi
        exact ⟨{ r with state := if x2.isNormal then .ready else .done, pending := jumpOf x2 }, by show (w2.heap.setIfInBounds i _)[i]? = _; rw [Array.getElem?_setIfInBounds]; simp [hlt2], rfl, rfl, rfl, rfl, rfl, rfl⟩
      · have hne' : ¬ l = i := fun e => hne e.symm
        obtain ⟨q1, h1, a1, a2, a3, a4, a5, a6⟩ := s1.loops i q hi
        have h1' : (w1.heap.setIfInBounds l (.loop { r with state := .busy }))[i]? = some (.loop q1) := by rw [Array.getElem?_setIfInBounds, if_neg hne']; exact h1
        obtain ⟨q2, h2, b1, b2, b3, b4, b5, b6⟩ := s2.loops i q1 h1'
        exact ⟨q2, by show (w2.heap.setIfInBounds l _)[i]? = _; rw [Array.getElem?_setIfInBounds, if_neg hne']; exact h2, b1.trans a1, b2.trans a2, b3.trans a3, b4.trans a4, b5.trans a5, b6.trans a6⟩
  refine ⟨.bool x2.isNormal, _, Frame.round l r.fn ((r.params.zip args).foldl (fun tmps (t, a) => tmps.setIfInBounds t a) r.tmps) r.assign r.body .normal, fr :: cs, w, ⟨hsame, hR⟩, ?_, ?_⟩
  · simp [stepG.apply, Sem.runT_eq, hinv]
  · have e0 : Frame.round l r.fn ((r.params.zip args).foldl (fun tmps (t, a) => tmps.setIfInBounds t a) r.tmps) r.assign r.body .normal =
        b.atR { tmps := (r.params.zip args).foldl (fun tmps (t, a) => tmps.setIfInBounds t a) r.tmps, defers := [] } [.code r.assign, .beginRound, .code r.body] := rfl
    rw [e0]
    refine Steps.trans arr1 (.head (stepR_beginRound (l := l) rfl hbr) ?_)
    have h3 := her (jumpOf x2)
    rw [ejn] at h3
    cases x2 with
    | normal => exact Steps.trans arr2 (.one (stepR_round_end (l := l) rfl rfl h3))
    | exit id => obtain ⟨td, e, s⟩ := arr2; exact Steps.trans s (.one (stepR_round_exit (l := l) rfl rfl (by rw [e]; rfl) h3))
    | ret => obtain ⟨td, s⟩ := arr2; exact Steps.trans s (.one (stepR_round_ret (l := l) rfl rfl h3))

theorem cw_rangeFunc {P : Program} {n0 : Nat} {ro : Option Nat} {f : Operand} {params : Array Tmp} {assign body : Code} {Q : Ex → Act → World → Prop} {a : Act} {w : World}
    (h : ∀ (fnid : FuncId) (d : Nat) (hx : Heap) (l : Nat), w.heap.size ≤ l → l + 1 = hx.size → (∀ b, b < w.heap.size → hx[b]? = w.heap[b]?) → (∀ b, w.heap.size ≤ b → (∀ c e fr, hx[b]? ≠ some (.cells c e fr)) ∧ ∀ es k, hx[b]? ≠ some (.map es k)) →
      hx[l]? = some (.loop { state := .ready, pending := none, fn := fnid, tmps := a.tmps, params, assign, body, defers := d }) →
      Goes P (applyV (a.eval f) #[yv l]) { w with heap := hx } fun _ w2 => Same { w with heap := hx } w2 ∧
        ∃ x s, s ≠ LoopState.busy ∧ w2.heap[l]? = some (.loop { state := s, pending := jumpOf x, fn := fnid, tmps := a.tmps, params, assign, body, defers := d }) ∧
          ∀ df, Q x { a with defers := df } { w2 with heap := w2.heap.setIfInBounds l (.loop { state := .exhausted, pending := jumpOf x, fn := fnid, tmps := a.tmps, params, assign, body, defers := d }) }) :
    CW P n0 ro (.rangeFunc f params assign body) Q a w := by
  intro D b k cs hk hb hr hm hn
  -- what enterLoop lays
  obtain ⟨d, hx, l, mark, hrun, hle, hsz, hold, hnew, hloop, hmk⟩ : ∃ (d : Nat) (hx : Heap) (l : Nat) (mark : List Deferred),
      (Instr.enterLoop b.fn a.tmps params assign body b.roundOf).run P w = .ok (l, mark) { w with heap := hx } ∧ w.heap.size ≤ l ∧ l + 1 = hx.size ∧ (∀ i, i < w.heap.size → hx[i]? = w.heap[i]?) ∧
      (∀ i, w.heap.size ≤ i → (∀ c e fr, hx[i]? ≠ some (.cells c e fr)) ∧ ∀ es k, hx[i]? ≠ some (.map es k)) ∧ hx[l]? = some (.loop { state := .ready, pending := none, fn := b.fn, tmps := a.tmps, params, assign, body, defers := d }) ∧
      MOk n0 D (mark ++ a.defers) hx := by
    cases hro : b.roundOf with
    | none =>
      refine ⟨w.heap.size, (w.heap.push (.deferred (some []))).push (.loop { state := .ready, pending := none, fn := b.fn, tmps := a.tmps, params, assign, body, defers := w.heap.size }), w.heap.size + 1, [mk w.heap.size], ?_, by omega, by simp, ?_, ?_, ?_, ?_⟩
      · simp [Instr.enterLoop, newObj, bind, Sem.bind, pure, Sem.run, mk]
      · intro i hi
        rw [Array.getElem?_push, if_neg (by simp; omega), Array.getElem?_push, if_neg (by omega)]
      · intro i hi
        rw [Array.getElem?_push]
        split
        · simp
        · rw [Array.getElem?_push]
          split
          · simp
          · rw [Array.getElem?_eq_none hi]; simp
      · rw [Array.getElem?_push]; simp
      · obtain ⟨ms, e, nd, hms⟩ := hm
        have hlt : ∀ r ∈ ms, r < w.heap.size := fun r hr' => (Array.getElem?_eq_some_iff.1 (hms r hr').2).1
        refine ⟨w.heap.size :: ms, by simp [e], by simp; exact ⟨fun hin => absurd (hlt _ hin) (by omega), nd⟩, ?_⟩
        intro r hr'
        simp only [List.mem_cons] at hr'
        rcases hr' with rfl | hr'
        · refine ⟨hn, ?_⟩
          rw [Array.getElem?_push, if_neg (by simp), Array.getElem?_push]; simp
        · refine ⟨(hms r hr').1, ?_⟩
          have := hlt r hr'
          rw [Array.getElem?_push, if_neg (by simp; omega), Array.getElem?_push, if_neg (by omega)]
          exact (hms r hr').2
    | some l0 =>
      obtain ⟨r0, hr0⟩ := hr l0 (by rw [← hb, hro])
      refine ⟨r0.defers, w.heap.push (.loop { state := .ready, pending := none, fn := b.fn, tmps := a.tmps, params, assign, body, defers := r0.defers }), w.heap.size, [], ?_, by omega, by simp, ?_, ?_, ?_, ?_⟩
      · simp [Instr.enterLoop, Instr.getLoop, getObj, newObj, bind, Sem.bind, pure, Sem.run, hr0]
      · intro i hi
        rw [Array.getElem?_push, if_neg (by omega)]
      · intro i hi
        rw [Array.getElem?_push]
        split
        · simp
        · rw [Array.getElem?_eq_none hi]; simp
      · rw [Array.getElem?_push]; simp
      · obtain ⟨ms, e, nd, hms⟩ := hm
        refine ⟨ms, by simp [e], nd, fun r hr' => ⟨(hms r hr').1, ?_⟩⟩
        have hlt : r < w.heap.size := (Array.getElem?_eq_some_iff.1 (hms r hr').2).1
        rw [Array.getElem?_push, if_neg (by omega)]
        exact (hms r hr').2
  have hs0 : Same w { w with heap := hx } := .of_heap rfl rfl rfl (by show w.heap.size ≤ hx.size; omega) fun i o hi _ => by
    have hlt : i < w.heap.size := (Array.getElem?_eq_some_iff.1 hi).1
    show hx[i]? = _
    rw [hold i hlt]; exact hi
  let a2 : Act := { a with defers := mark ++ a.defers }
  let fr1 : Frame := b.atR a2 (.inRangeFunc l :: k)
  obtain ⟨v, w2, f1, c1, w1, ⟨hs1, x, s, hbusy, hl2, hQ⟩, hap, hst⟩ := h b.fn d hx l hle hsz hold hnew hloop fr1 cs hk (.inr ⟨_, _, rfl⟩)
  have hlt2 : l < w2.heap.size := (Array.getElem?_eq_some_iff.1 hl2).1
  let w3 : World := { w2 with heap := w2.heap.setIfInBounds l (.loop { state := .exhausted, pending := jumpOf x, fn := b.fn, tmps := a.tmps, params, assign, body, defers := d }) }
  have hend : (Instr.endLoop l).run P w2 = .ok (jumpOf x) w3 := by
    simp [Instr.endLoop, Instr.getLoop, getObj, setObj, bind, Sem.bind, pure, Sem.run, hl2, w3]
    exact fun e => absurd e hbusy
  have hs3 : Same w w3 := by
    have h02 := hs0.trans hs1
    refine ⟨h02.os, h02.tape, h02.output, by have := h02.size; simp [w3]; exact this, fun i ds hi => ?_, fun i q hi => ?_⟩
    · have hlt : i < w.heap.size := (Array.getElem?_eq_some_iff.1 hi).1
      show (w2.heap.setIfInBounds l _)[i]? = _
      rw [Array.getElem?_setIfInBounds, if_neg (by omega)]
      exact h02.marks i ds hi
    · have hlt : i < w.heap.size := (Array.getElem?_eq_some_iff.1 hi).1
      obtain ⟨q', hq', rest⟩ := h02.loops i q hi
      refine ⟨q', ?_, rest⟩
      show (w2.heap.setIfInBounds l _)[i]? = _
      rw [Array.getElem?_setIfInBounds, if_neg (by omega)]
      exact hq'
  have hm3 : MOk n0 D a2.defers w3.heap := by
    have h1 : MOk n0 D (mark ++ a.defers) w2.heap := MOk.same (w := { w with heap := hx }) hmk hs1
    obtain ⟨ms, e, nd, hms⟩ := h1
    refine ⟨ms, e, nd, fun r hr' => ⟨(hms r hr').1, ?_⟩⟩
    have hne : l ≠ r := by rintro rfl; have := (hms _ hr').2; rw [hl2] at this; cases this
    show (w2.heap.setIfInBounds l _)[r]? = _
    rw [Array.getElem?_setIfInBounds, if_neg hne]
    exact (hms r hr').2
  have st0 : step P (lone (b.atR a (.code (.rangeFunc f params assign body) :: k)) cs w) = .next (lone f1 c1 w1) := by
    refine step_lone_go ?_
    have heval : ({ fn := b.fn, tmps := a.tmps, todo := .inRangeFunc l :: k, defers := mark ++ a.defers, mode := .run, kind := b.kind, roundOf := b.roundOf } : Frame).eval = a.eval := by funext z; cases z <;> rfl
    have hsem : (do let d ← resolve ({ fn := b.fn, tmps := a.tmps, todo := .inRangeFunc l :: k, defers := mark ++ a.defers, mode := .run, kind := b.kind, roundOf := b.roundOf } : Frame).eval { callee := .value f, args := #[.const (.func (.yield l) #[] #[])], argTypes := #[] } 0; invoke d.target d.args) =
        applyV (a.eval f) #[yv l] := by
      rw [heval]; simp [applyV, resolve, yv, Act.eval]
    simp only [stepG, stepG.exec, Frame.atR, Sem.runT_eq, hrun]
    rw [hsem]
    simpa [fr1, Frame.atR, a2] using hap
  have st2 : step P (lone (fr1.finish v) cs w2) = .next (lone (b.atR a2 ((jumpOf x).map Item.code |>.toList |> (· ++ k))) cs w3) := by
    refine step_lone_go ?_
    simp [fr1, Frame.finish, Frame.atR, stepG, stepG.exec, Sem.runT_eq, hend]
  refine ⟨x, a2, w3, hQ _, hm3, fun hh => by simp [noRF] at hh, fun hh => by simp [plainC] at hh, fun _ _ => rfl, hs3, ?_⟩
  have reach : Steps P (lone (b.atR a (.code (.rangeFunc f params assign body) :: k)) cs w) (lone (b.atR a2 ((jumpOf x).map Item.code |>.toList |> (· ++ k))) cs w3) := .head st0 (Steps.trans hst (.one st2))
  cases x with
  | normal => exact reach
  | exit id => exact ⟨k, rfl, reach⟩
  | ret => exact ⟨k, reach⟩

end Go.Sx
