/-
  Functions that leave one deferred call behind: what they do, and what a deferred call does. Nothing here names a program.
-/
import Derived.Test.YtfadkgkkbbcekaaSx10
import Derived.Defers
set_option linter.unusedVariables false
set_option linter.unusedSimpArgs false
namespace Go.Sx
open Go

section
variable {P : Program}

def DCall (P : Program) (f : FuncId) (args : Array Value) (h : Heap) (R : HP) : Prop :=
  ∀ w : World, w.heap = h → ∀ (c : Frame) (cs : List Frame), c.mode = .returning → ∃ w', R w'.heap ∧ Same w w' ∧ Steps P (lone (Frame.enter P f args .deferred) (c :: cs) w) (lone c cs w')

theorem DCall.mono {f : FuncId} {args : Array Value} {h : Heap} {R R' : HP} (c : DCall P f args h R) (hr : ∀ h', R h' → R' h') : DCall P f args h R' :=
  fun w hw fr cs hm => let ⟨w', r, s, st⟩ := c w hw fr cs hm; ⟨w', hr _ r, s, st⟩

def EndsAt (P : Program) (kd : CallKind) (f : FuncId) (args : Array Value) (w : World) (R : Value → World → Prop) : Prop :=
  ∀ cs, ∃ v w' fr, R v w' ∧ Same w w' ∧ Steps P (lone (Frame.enter P f args kd) cs w) (lone fr cs w') ∧ fr.fn = f ∧ fr.mode = .returning ∧ fr.defers = [] ∧ fr.kind = kd ∧ ∃ fn, P.funcs[f]? = some fn ∧ (results fn fr.tmps).run P w' = .ok v w'

theorem ends_of_cw (kd : CallKind) {f : FuncId} {fn : Func} {c : Code} {args : Array Value} {w : World} {R : Value → World → Prop} (hf : P.funcs[f]? = some fn) (hb : fn.body = some c)
    (h : CW P w.heap.size none c (fun x a w' => (x = .normal ∨ x = .ret) ∧ ∀ h'', (noRF c = true → h'' = w'.heap) → Marked w.heap.size w'.heap h'' →
        ∃ v, (results fn a.tmps).run P { w' with heap := h'' } = .ok v { w' with heap := h'' } ∧ R v { w' with heap := h'' })
      { tmps := args ++ Array.replicate (fn.ntmps - args.size) undef, defers := [] } w) : EndsAt P kd f args w R := by
  intro cs
  obtain ⟨x, a', w', ⟨hx, hres⟩, ⟨ms, hd, hnd, hms⟩, hno, -, -, hs, arr⟩ := h [] (Frame.enter P f args kd) [] cs trivial rfl (fun _ e => by cases e) (.nil _ _ _) (Nat.le_refl _)
  rw [List.append_nil] at hd
  have e0 : Frame.enter P f args kd = (Frame.enter P f args kd).atR { tmps := args ++ Array.replicate (fn.ntmps - args.size) undef, defers := [] } [.code c] := by
    simp [Frame.enter, Frame.atR, hf, hb]
  have reach : ∃ td, Steps P (lone (Frame.enter P f args kd) cs w) (lone { (Frame.enter P f args kd).atR a' td with mode := .returning } cs w') := by
    rw [e0]
    rcases hx with rfl | rfl
    · exact ⟨[], Steps.trans arr (.one (stepR_end rfl))⟩
    · obtain ⟨td, s⟩ := arr; exact ⟨_, Steps.trans s (.one (stepR_ret rfl))⟩
  obtain ⟨td, st⟩ := reach
  obtain ⟨h'', hM, hnil, st2⟩ := unwind_marks (P := P) (n0 := w.heap.size) ms { (Frame.enter P f args kd).atR a' td with mode := .returning } cs w' rfl hd hnd hms
  obtain ⟨v, hrun, hR⟩ := hres h'' (fun hn => hnil (by
    have e := hno hn
    rw [hd] at e
    cases ms with
    | nil => rfl
    | cons r ms => simp at e)) hM
  have hsame : Same w { w' with heap := h'' } := by
    refine ⟨hs.os, hs.tape, hs.output, by show w.heap.size ≤ h''.size; rw [hM.1]; exact hs.size, fun b ds hb => ?_, fun b r hb => ?_⟩
    · have hlt : b < w.heap.size := by
        rcases Nat.lt_or_ge b w.heap.size with h' | h'
        · exact h'
        · simp [Array.getElem?_eq_none h'] at hb
      show h''[b]? = _
      rw [hM.2 b (.inl hlt)]; exact hs.marks b ds hb
    · have hlt : b < w.heap.size := by
        rcases Nat.lt_or_ge b w.heap.size with h' | h'
        · exact h'
        · simp [Array.getElem?_eq_none h'] at hb
      obtain ⟨r', hr', rest⟩ := hs.loops b r hb
      exact ⟨r', by show h''[b]? = _; rw [hM.2 b (.inl hlt)]; exact hr', rest⟩
  exact ⟨v, { w' with heap := h'' }, _, hR, hsame, Steps.trans st st2, rfl, rfl, rfl, rfl, fn, hf, hrun⟩

theorem dcall_of_ends {f : FuncId} {args : Array Value} {h : Heap} {R : Value → World → Prop} {R' : HP} (hh : ∀ w : World, w.heap = h → EndsAt P .deferred f args w R) (hr : ∀ v w', R v w' → R' w'.heap) : DCall P f args h R' := by
  intro w hw c cs hm
  obtain ⟨v, w', fr, hR, hs, st, h1, h2, h3, h4, fn, hf, hrun⟩ := hh w hw (c :: cs)
  refine ⟨w', hr _ _ hR, hs, Steps.trans st (.one ?_)⟩
  have := step_going_returned (P := P) (fr := fr) (c := c) (cs := cs) (w := w') (v := v) h4 ⟨h2, h3, fn, by rw [h1]; exact hf, hrun⟩
  rw [this, hm]
  have : ({ c with mode := settle .returning } : Frame) = c := by
    cases c; simp only at hm; subst hm; rfl
  rw [this]

def RD (P : Program) (c : Code) (Q : Ex → Act → World → Prop) (a : Act) (w : World) : Prop :=
  ∀ (b : Frame) (k : List Item) (cs : List Frame), b.roundOf = none → ∃ x a' w', Q x a' w' ∧ Same w w' ∧ Arr P (lone (b.atR a (.code c :: k)) cs w) b k cs x a' w'

variable {Q : Ex → Act → World → Prop} {a : Act} {w : World}

theorem RD.mono {c : Code} {Q' : Ex → Act → World → Prop} (h : RD P c Q a w) (hq : ∀ x a w, Q x a w → Q' x a w) : RD P c Q' a w :=
  fun b k cs hb => let ⟨x, a', w', q, r⟩ := h b k cs hb; ⟨x, a', w', hq _ _ _ q, r⟩
end

def dcl (P : Program) (f : FuncId) (args : Array Value) (R : HP) : HP := fun h =>
  (∀ w : World, (callFunc f args).run P w = .ok (.enter f args) w) ∧ DCall P f args h R

section sound
variable {P : Program} {rt : List (Nat × Ty)} {nv N : Nat}

end sound

section fn
variable {P : Program}

theorem res_run {fn : Func} {e : Env} {a : Act} {τ : Ty} {K : τ.T → HP} (hfe : Fits fn.ntmps e a.tmps) (w : World) (hr : resL P fn.results.toList e (fun vs => (unp τ).1 (retV vs) K) w.heap) :
    ∃ v, (results fn a.tmps).run P w = .ok v w ∧ ∃ y : τ.T, v = τ.enc y ∧ K y w.heap := by
  obtain ⟨vs, hk, hl, hrun⟩ := resL_ok hfe _ _ w hr
  obtain ⟨y, hy, ev⟩ := (unp_sound _).1 _ _ _ hk
  refine ⟨retV vs, ?_, y, ev, hy⟩
  have e1 : results fn a.tmps = (do let vs ← fn.results.mapM (rv1 a.tmps); pure (if h : vs.size = 1 then vs[0] else .tuple vs)) := by
    unfold results
    rfl
  rw [e1, Array.mapM_eq_mapM_toList]
  simp [hrun]
  match vs with
  | [] => simp [retV]
  | [v] => simp [retV]
  | v :: u :: vs => simp [retV]

theorem fits_args {fn : Func} {args : List Value} (hn : args.length ≤ fn.ntmps) : Fits fn.ntmps (argE 0 args) (args.toArray ++ Array.replicate (fn.ntmps - args.toArray.size) undef) := by
  refine ⟨by simp; omega, fun t v ht => ?_⟩
  obtain ⟨_, h2⟩ := argE_find args 0 t v ht
  have hlt : t < args.length := by
    rcases Nat.lt_or_ge t args.length with h' | h'
    · exact h'
    · rw [List.getElem?_eq_none (by simpa using h')] at h2; cases h2
  rw [Array.getElem?_append_left (by simpa using hlt)]
  simpa using h2

theorem body_codeOf {fn : Func} (hb : fn.body.isSome = true) : fn.body = some (codeOf fn) := by
  unfold codeOf
  cases hbb : fn.body with
  | none => rw [hbb] at hb; cases hb
  | some c => rfl

theorem dcl_of_fn (hm : P.follows .mixedOrders = true) {rt : List (Nat × Ty)} {nv f : Nat} {fn : Func} {args : List Value} {τ : Ty} {K : τ.T → HP} {h : Heap} {R : HP} (hf : P.funcs[f]? = some fn) (hb : fn.body.isSome = true)
    (hn : Nat.ble args.length fn.ntmps = true) (hnr : noRF (codeOf fn) = true) (hc : ∀ (a : Array Value) (w : World), (callFunc f a).run P w = .ok (.enter f a) w) (hv : fnVC P rt nv fn args τ K h) (hR : ∀ x h', K x h' → R h') :
    dcl P f args.toArray R h := by
  refine ⟨hc _, dcall_of_ends (R := fun v w' => ∃ x : τ.T, v = τ.enc x ∧ K x w'.heap) (fun w hw => ?_) (fun v w' ⟨x, _, k⟩ => hR _ _ k)⟩
  subst hw
  refine ends_of_cw .deferred hf (body_codeOf hb) ((vc_sound hm (codeOf fn) w.heap.size none _ _ _ hv _ w rfl (fits_args (by simpa using hn))).mono ?_)
  rintro x a w' ⟨e, hfe, hq⟩
  have key : ∀ h'', (noRF (codeOf fn) = true → h'' = w'.heap) → resL P fn.results.toList e (fun vs => (unp τ).1 (retV vs) K) w'.heap → ∃ v, (results fn a.tmps).run P { w' with heap := h'' } = .ok v { w' with heap := h'' } ∧ ∃ y : τ.T, v = τ.enc y ∧ K y h'' := by
    intro h'' e2 hr
    have := e2 hnr
    subst this
    exact res_run hfe w' hr
  cases x with
  | exit id => exact hq.elim
  | normal =>
    refine ⟨.inl rfl, fun h'' hno hM => ?_⟩
    simp only [retQ, hnr] at hq
    exact key h'' hno hq
  | ret =>
    refine ⟨.inr rfl, fun h'' hno hM => ?_⟩
    simp only [retQ, hnr] at hq
    exact key h'' hno hq

end fn
end Go.Sx
