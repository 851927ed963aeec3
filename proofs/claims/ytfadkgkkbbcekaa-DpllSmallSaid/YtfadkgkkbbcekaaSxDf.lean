/-
  Functions that leave one deferred call behind: what they do, and what a deferred call does. Nothing here names a program.
-/
import Derived.Test.YtfadkgkkbbcekaaSx10
import Derived.Defers
set_option linter.unusedVariables false
set_option linter.unusedSimpArgs false
namespace Go.Sx
open Go

section
variable {P : Program}

def DCall (P : Program) (f : FuncId) (args : Array Value) (h : Heap) (R : HP) : Prop :=
  ∀ w : World, w.heap = h → ∀ (c : Frame) (cs : List Frame), c.mode = .returning → ∃ w', R w'.heap ∧ Same w w' ∧ Steps P (lone (Frame.enter P f args .deferred) (c :: cs) w) (lone c cs w')

theorem DCall.mono {f : FuncId} {args : Array Value} {h : Heap} {R R' : HP} (c : DCall P f args h R) (hr : ∀ h', R h' → R' h') : DCall P f args h R' :=
  fun w hw fr cs hm => let ⟨w', r, s, st⟩ := c w hw fr cs hm; ⟨w', hr _ r, s, st⟩

def EndsAt (P : Program) (kd : CallKind) (f : FuncId) (args : Array Value) (w : World) (R : Value → World → Prop) : Prop :=
  ∀ cs, ∃ v w' fr, R v w' ∧ Same w w' ∧ Steps P (lone (Frame.enter P f args kd) cs w) (lone fr cs w') ∧ fr.fn = f ∧ fr.mode = .returning ∧ fr.defers = [] ∧ fr.kind = kd ∧ ∃ fn, P.funcs[f]? = some fn ∧ (results fn fr.tmps).run P w' = .ok v w'

theorem ends_of_cw (kd : CallKind) {f : FuncId} {fn : Func} {c : Code} {args : Array Value} {w : World} {R : Value → World → Prop} (hf : P.funcs[f]? = some fn) (hb : fn.body = some c)
    (h : CW P w.heap.size none c (fun x a w' => (x = .normal ∨ x = .ret) ∧ ∀ h'', (noRF c = true → h'' = w'.heap) → Marked w.heap.size w'.heap h'' →
        ∃ v, (results fn a.tmps).run P { w' with heap := h'' } = .ok v { w' with heap := h'' } ∧ R v { w' with heap := h'' })
      { tmps := args ++ Array.replicate (fn.ntmps - args.size) undef, defers := [] } w) : EndsAt P kd f args w R := by
  intro cs
  obtain ⟨x, a', w', ⟨hx, hres⟩, ⟨ms, hd, hnd, hms⟩, hno, -, -, hs, arr⟩ := h [] (Frame.enter P f args kd) [] cs trivial rfl (fun _ e => by cases e) (.nil _ _ _) (Nat.le_refl _)
  rw [List.append_nil] at hd
  have e0 : Frame.enter P f args kd = (Frame.enter P f args kd).atR { tmps := args ++ Array.replicate (fn.ntmps - args.size) undef, defers := [] } [.code c] := by
    simp [Frame.enter, Frame.atR, hf, hb]
  have reach : ∃ td, Steps P (lone (Frame.enter P f args kd) cs w) (lone { (Frame.enter P f args kd).atR a' td with mode := .returning } cs w') := by
    rw [e0]
    rcases hx with rfl | rfl
    · exact ⟨[], Steps.trans arr (.one (stepR_end rfl))⟩
    · obtain ⟨td, s⟩ := arr; exact ⟨_, Steps.trans s (.one (stepR_ret rfl))⟩
  obtain ⟨td, st⟩ := reach
  obtain ⟨h'', hM, hnil, st2⟩ := unwind_marks (P := P) (n0 := w.heap.size) ms { (Frame.enter P f args kd).atR a' td with mode := .returning } cs w' rfl hd hnd hms
  obtain ⟨v, hrun, hR⟩ := hres h'' (fun hn => hnil (by
    have e := hno hn
    rw [hd] at e
    cases ms with
    | nil => rfl
    | cons r ms => simp at e)) hM
  have hsame : Same w { w' with heap := h'' } := by
    refine ⟨hs.os, hs.tape, hs.output, by show w.heap.size ≤ h''.size; rw [hM.1]; exact hs.size, fun b ds hb => ?_, fun b r hb => ?_⟩
    · have hlt : b < w.heap.size := by
        rcases Nat.lt_or_ge b w.heap.size with h' | h'
        · exact h'
        · simp [Array.getElem?_eq_none h'] at hb
      show h''[b]? = _
      rw [hM.2 b (.inl hlt)]; exact hs.marks b ds hb
    · have hlt : b < w.heap.size := by
        rcases Nat.lt_or_ge b w.heap.size with h' | h'
        · exact h'
        · simp [Array.getElem?_eq_none h'] at hb
      obtain ⟨r', hr', rest⟩ := hs.loops b r hb
      exact ⟨r', by show h''[b]? = _; rw [hM.2 b (.inl hlt)]; exact hr', rest⟩
  exact ⟨v, { w' with heap := h'' }, _, hR, hsame, Steps.trans st st2, rfl, rfl, rfl, rfl, fn, hf, hrun⟩

theorem calls_of_ends {f : FuncId} {args : Array Value} {w : World} {R : Value → World → Prop} (h : EndsAt P .normal f args w R) : Calls P f args w fun e w' => ∃ v, e = .returned v ∧ R v w' ∧ Same w w' := by
  intro cs
  obtain ⟨v, w', fr, hR, hs, st, h1, h2, h3, h4, fn, hf, hr⟩ := h cs
  exact ⟨.returned v, w', fr, ⟨v, rfl, hR, hs⟩, st, h1, h2, h3, h4, fn, by rw [h1]; exact hf, hr⟩
theorem dcall_of_ends {f : FuncId} {args : Array Value} {h : Heap} {R : Value → World → Prop} {R' : HP} (hh : ∀ w : World, w.heap = h → EndsAt P .deferred f args w R) (hr : ∀ v w', R v w' → R' w'.heap) : DCall P f args h R' := by
  intro w hw c cs hm
  obtain ⟨v, w', fr, hR, hs, st, h1, h2, h3, h4, fn, hf, hrun⟩ := hh w hw (c :: cs)
  refine ⟨w', hr _ _ hR, hs, Steps.trans st (.one ?_)⟩
  have := step_going_returned (P := P) (fr := fr) (c := c) (cs := cs) (w := w') (v := v) h4 ⟨h2, h3, fn, by rw [h1]; exact hf, hrun⟩
  rw [this, hm]
  have : ({ c with mode := settle .returning } : Frame) = c := by
    cases c; simp only at hm; subst hm; rfl
  rw [this]

def RD (P : Program) (c : Code) (Q : Ex → Act → World → Prop) (a : Act) (w : World) : Prop :=
  ∀ (b : Frame) (k : List Item) (cs : List Frame), b.roundOf = none → ∃ x a' w', Q x a' w' ∧ Same w w' ∧ Arr P (lone (b.atR a (.code c :: k)) cs w) b k cs x a' w'

variable {Q : Ex → Act → World → Prop} {a : Act} {w : World}

theorem RD.mono {c : Code} {Q' : Ex → Act → World → Prop} (h : RD P c Q a w) (hq : ∀ x a w, Q x a w → Q' x a w) : RD P c Q' a w :=
  fun b k cs hb => let ⟨x, a', w', q, r⟩ := h b k cs hb; ⟨x, a', w', hq _ _ _ q, r⟩
theorem rd_of_cw {c : Code} (h : CW P 0 none c Q a w) (hn : noRF c = true) : RD P c (fun x a' w' => Q x a' w' ∧ a'.defers = a.defers) a w := fun b k cs hb =>
  let ⟨x, a', w', q, _, d, _, _, s, arr⟩ := h a.defers b k cs trivial hb (fun _ e => by cases e) (.nil _ _ _) (Nat.zero_le _)
  ⟨x, a', w', ⟨q, d hn⟩, s, arr⟩

theorem rd_seq {x y : Code} (h : RD P x (thenQ (RD P y Q) Q) a w) : RD P (.seq x y) Q a w := by
  intro b k cs hb
  obtain ⟨e, a1, w1, q, s1, arr⟩ := h b (.code y :: k) cs hb
  cases e with
  | normal =>
    obtain ⟨e2, a2, w2, q2, s2, arr2⟩ := q b k cs hb
    exact ⟨e2, a2, w2, q2, s1.trans s2, .of_steps (.head stepR_seq arr) arr2⟩
  | exit id =>
    obtain ⟨td, e, s⟩ := arr
    exact ⟨.exit id, a1, w1, q, s1, td, e.trans (by simp [exitTo]), .head stepR_seq s⟩
  | ret =>
    obtain ⟨td, s⟩ := arr
    exact ⟨.ret, a1, w1, q, s1, td, .head stepR_seq s⟩

theorem opsRun_defers {ops : Array Oper} {Q : Act → World → Prop} : ∀ {l : List Nat} {a : Act} {w : World}, OpsRun P ops Q l a w → OpsRun P ops (fun a' w' => Q a' w' ∧ a'.defers = a.defers) l a w := by
  intro l
  induction l with
  | nil => exact fun h => ⟨h, rfl⟩
  | cons i rest ih =>
    intro a w h
    simp only [OpsRun, OpGo] at h ⊢
    split at h
    · exact h.elim
    · rename_i o ho
      have pd : ∀ v, (a.put o.dst v).defers = a.defers := by intro v; cases o.dst <;> rfl
      refine ⟨h.1, ?_⟩
      have h := h.2
      split at h
      · rename_i hw
        rw [if_pos hw]
        refine h.mono ?_
        rintro v w1 ⟨s1, p1, q⟩
        refine ⟨s1, p1, ?_⟩
        have := ih q
        rw [pd] at this
        exact this
      · rename_i hw
        rw [if_neg hw]
        have := ih h
        rw [pd] at this
        exact this

theorem opsRun_pre {ops : Array Oper} {Q : Act → World → Prop} : ∀ (l : List Nat) (a : Act) (w : World), OpsRun P ops Q l a w →
    ∀ (l2 : List Nat) (b : Frame) (k : List Item) (cs : List Frame), b.roundOf = none →
      ∃ a' w', Q a' w' ∧ a'.defers = a.defers ∧ Same w w' ∧ Steps P (lone (b.atR a (.inRegion ops (l ++ l2) :: k)) cs w) (lone (b.atR a' (.inRegion ops l2 :: k)) cs w') := by
  intro l
  induction l with
  | nil => exact fun a w h l2 b k cs _ => ⟨a, w, h, rfl, .refl _, .refl _ _⟩
  | cons i rest ih =>
    intro a w h l2 b k cs hb
    simp only [OpsRun, OpGo] at h
    split at h
    · exact h.elim
    · rename_i o ho
      obtain ⟨hd, h⟩ := h
      have pd : ∀ v, (a.put o.dst v).defers = a.defers := by intro v; cases o.dst <;> rfl
      split at h
      · rename_i hw
        obtain ⟨v, w1, fr1, cs1, w0, ⟨s1, p1, q⟩, hap, hst⟩ := h (b.atR a (.inRegion ops (i :: (rest ++ l2)) :: k)) cs trivial (.inl ⟨_, _, _, rfl⟩)
        rw [Frame.finish_atR, ho] at hst
        simp only [Option.bind_some] at hst
        obtain ⟨a', w', q', d', s', st'⟩ := ih _ _ q l2 b k cs hb
        refine ⟨a', w', q', d'.trans (pd v), s1.trans s', .head ?_ (Steps.trans hst st')⟩
        refine step_lone_go ?_
        rw [List.cons_append, stepGR_op ho hw]
        have : o.semAt b.roundOf a.eval = execOp a.eval o := Oper.semAt_eq _ _ _ (by intro c e; simp [notDefer, e] at hd)
        rw [this]; exact hap
      · rename_i hw
        obtain ⟨a', w', q', d', s', st'⟩ := ih _ _ h l2 b k cs hb
        refine ⟨a', w', q', d'.trans (pd _), s', .head (by rw [List.cons_append]; exact stepR_op_skip (by simp [ho]; simpa using hw)) ?_⟩
        simpa [ho] using st'

theorem rd_defer {ops : Array Oper} {id n : Nat} {o : Oper} {cl : Call} (hn : ops.size = n + 1) (ho : ops[n]? = some o) (hc : o.op = .defer cl) (hg : o.guard = none) (hdst : o.dst = none)
    (h : OpsRun P ops (fun a' w' => ∃ d, (∀ w, (resolve a'.eval cl o.type).run P w = .ok d w) ∧ Q .normal { a' with defers := d :: a'.defers } w') (List.range n) a w) : RD P (.region id ops false) Q a w := by
  intro b k cs hb
  obtain ⟨a', w', ⟨d, hr, q⟩, hd, s, st⟩ := opsRun_pre _ _ _ h [n] b k cs hb
  refine ⟨.normal, { a' with defers := d :: a'.defers }, w', q, s, ?_⟩
  show Steps P _ _
  have e1 : List.range ops.size = List.range n ++ [n] := by rw [hn, List.range_succ]
  refine .head stepR_region (Steps.trans (by rw [e1]; exact st) (.head (step_lone_go ?_) (.one (stepR_region_end (ops := ops)))))
  · have hw : Region.wanted o (yielded ops a'.tmps) = true := by simp [Region.wanted, hg]
    rw [stepGR_op ho hw]
    have hs : o.semAt b.roundOf a'.eval = execOp a'.eval o := by rw [hb]; simp [Oper.semAt]
    have hx : (execOp a'.eval o).run P w' = .ok (.defer d) w' := by simp [execOp, hc, hr]
    rw [hs]
    simp [stepG.apply, Sem.runT_eq, hx, Frame.finish, Frame.atR, ho, hdst]

theorem ends_of_rd (kd : CallKind) {f : FuncId} {fn : Func} {c : Code} {args : Array Value} {w : World} {R : Value → World → Prop} (hf : P.funcs[f]? = some fn) (hb : fn.body = some c)
    (h : RD P c (fun x a w' => (x = .normal ∨ x = .ret) ∧
        ((a.defers = [] ∧ ∃ v, (results fn a.tmps).run P w' = .ok v w' ∧ R v w') ∨
          ∃ g cap as, a.defers = [{ target := .fn (.func g) cap, args := as }] ∧ (∀ w, (callFunc g (as ++ cap)).run P w = .ok (.enter g (as ++ cap)) w) ∧
            DCall P g (as ++ cap) w'.heap fun h2 => ∀ w2 : World, w2.heap = h2 → ∃ v, (results fn a.tmps).run P w2 = .ok v w2 ∧ R v w2))
      { tmps := args ++ Array.replicate (fn.ntmps - args.size) undef, defers := [] } w) : EndsAt P kd f args w R := by
  intro cs
  obtain ⟨x, a', w', ⟨hx, hres⟩, hs, arr⟩ := h (Frame.enter P f args kd) [] cs rfl
  have e0 : Frame.enter P f args kd = (Frame.enter P f args kd).atR { tmps := args ++ Array.replicate (fn.ntmps - args.size) undef, defers := [] } [.code c] := by
    simp [Frame.enter, Frame.atR, hf, hb]
  have reach : ∃ td, Steps P (lone (Frame.enter P f args kd) cs w) (lone { (Frame.enter P f args kd).atR a' td with mode := .returning } cs w') := by
    rw [e0]
    rcases hx with rfl | rfl
    · exact ⟨[], Steps.trans arr (.one (stepR_end rfl))⟩
    · obtain ⟨td, s⟩ := arr; exact ⟨_, Steps.trans s (.one (stepR_ret rfl))⟩
  obtain ⟨td, st⟩ := reach
  rcases hres with ⟨hd, v, hrun, hR⟩ | ⟨g, cap, as, hd, hcf, hdc⟩
  · exact ⟨v, w', _, hR, hs, st, rfl, rfl, hd, rfl, fn, hf, hrun⟩
  · have h1 := step_defer (P := P) (fr := { (Frame.enter P f args kd).atR a' td with mode := .returning }) (cs := cs) (w := w') (d := { target := .fn (.func g) cap, args := as }) (ds := []) (fv := .func g) (cap := cap) (f := g) (args := as ++ cap)
      (by simp) hd rfl (by simpa [invoke] using hcf w')
    obtain ⟨w2, hr2, s2, st2⟩ := hdc w' rfl { { (Frame.enter P f args kd).atR a' td with mode := .returning } with defers := [] } cs rfl
    obtain ⟨v, hrun, hR⟩ := hr2 w2 rfl
    exact ⟨v, w2, _, hR, hs.trans s2, Steps.trans st (.head h1 st2), rfl, rfl, rfl, rfl, fn, hf, hrun⟩

end

def dcl (P : Program) (f : FuncId) (args : Array Value) (R : HP) : HP := fun h =>
  (∀ w : World, (callFunc f args).run P w = .ok (.enter f args) w) ∧ DCall P f args h R

def deferVC (P : Program) (rt : List (Nat × Ty)) (nv N : Nat) (b : Code) (Q : Ex → Env → HP) (cl : Call) (e : Env) : HP :=
  match cl.callee with
  | .value x => (match e.has x && cl.args.toList.all e.has with
     | true => (match e.ev x with
        | .func (.func g) first cap => vc P rt nv N b (fun xx e' => match xx with
            | .exit _ => fun _ => False
            | .normal => dcl P g (first ++ cl.args.map e.ev ++ cap) (Q .normal e')
            | .ret => dcl P g (first ++ cl.args.map e.ev ++ cap) (Q .ret e')) e
        | _ => fun _ => False)
     | false => fun _ => False)
  | _ => fun _ => False

def spineVC (P : Program) (rt : List (Nat × Ty)) (nv N : Nat) : Code → (Ex → Env → HP) → Env → HP
  | .seq a b, Q => (match lastDefer a with
    | some (ops, cl) => seqVC P ops N (List.range (ops.size - 1)) (deferVC P rt nv N b Q cl)
    | none => vc P rt nv N a (thenE (spineVC P rt nv N b Q) Q))
  | c, Q => vc P rt nv N c Q
where
  lastDefer : Code → Option (Array Oper × Call)
    | .region _ ops false => (match ops[ops.size - 1]? with
      | some o => (match o.op with
        | .defer cl => (match o.guard.isNone && o.dst.isNone with | true => some (ops, cl) | false => none)
        | _ => none)
      | none => none)
    | _ => none

def spineOk : Code → Bool
  | .seq a b => noRF a && spineOk b
  | c => noRF c
theorem noRF_of_spineOk : ∀ {c : Code}, spineOk c = true → noRF c = true := by
  intro c
  induction c with
  | seq a b _ ih => intro h; simp only [spineOk, Bool.and_eq_true] at h; simp only [noRF, Bool.and_eq_true]; exact ⟨h.1, ih h.2⟩
  | _ => exact fun h => h

theorem lastDefer_spec {c : Code} {ops : Array Oper} {cl : Call} (h : spineVC.lastDefer c = some (ops, cl)) : ∃ id n o, c = .region id ops false ∧ ops.size = n + 1 ∧ ops[n]? = some o ∧ o.op = .defer cl ∧ o.guard = none ∧ o.dst = none := by
  unfold spineVC.lastDefer at h
  split at h
  · rename_i id ops'
    split at h
    · rename_i o ho
      split at h
      · rename_i cl' hc
        split at h
        · rename_i hg
          simp only [Option.some.injEq, Prod.mk.injEq] at h
          obtain ⟨rfl, rfl⟩ := h
          simp only [Bool.and_eq_true, Option.isNone_iff_eq_none] at hg
          have hpos : 0 < ops'.size := by
            have := (Array.getElem?_eq_some_iff.1 ho).1
            omega
          exact ⟨id, ops'.size - 1, o, rfl, by omega, ho, hc, hg.1, hg.2⟩
        · cases h
      · cases h
    · cases h
  · cases h

section sound
variable {P : Program} {rt : List (Nat × Ty)} {nv N : Nat}

def defQ (P : Program) (N : Nat) (Q : Ex → Env → HP) : Ex → Act → World → Prop := fun x a w =>
  (a.defers = [] ∧ ∃ e, Fits N e a.tmps ∧ Q x e w.heap) ∨
    ∃ g cap as e, a.defers = [{ target := .fn (.func g) cap, args := as }] ∧ Fits N e a.tmps ∧ (x = .normal ∨ x = .ret) ∧ dcl P g (as ++ cap) (Q x e) w.heap

theorem spine_sound (hm : P.follows .mixedOrders = true) : ∀ (c : Code) (Q : Ex → Env → HP) (e : Env) (h : Heap), spineOk c = true → spineVC P rt nv N c Q e h → ∀ (a : Act) (w : World), w.heap = h → Fits N e a.tmps → a.defers = [] →
    RD P c (defQ P N Q) a w := by
  have base : ∀ (c : Code) (Q : Ex → Env → HP) (e : Env) (h : Heap), noRF c = true → vc P rt nv N c Q e h → ∀ (a : Act) (w : World), w.heap = h → Fits N e a.tmps → a.defers = [] →
      RD P c (fun x a' w' => a'.defers = [] ∧ ∃ e', Fits N e' a'.tmps ∧ Q x e' w'.heap) a w := fun c Q e h hn hv a w hw hf hd =>
    (rd_of_cw (vc_sound hm c 0 none Q e h hv a w hw hf) hn).mono fun x a' w' ⟨⟨e', hf', hq⟩, hd'⟩ => ⟨hd'.trans hd, e', hf', hq⟩
  intro c
  induction c with
  | seq x y _ ih =>
    intro Q e h hs hv a w hw hf hd
    simp only [spineOk, Bool.and_eq_true] at hs
    unfold spineVC at hv
    rcases hl : spineVC.lastDefer x with _ | ⟨ops, cl⟩ <;> simp only [hl] at hv
    rotate_left
    · obtain ⟨id, n, o, rfl, hn, ho, hc, hg, hdst⟩ := lastDefer_spec hl
      refine rd_seq (rd_defer hn ho hc hg hdst ?_)
      rw [hn, Nat.add_sub_cancel] at hv
      have hop := seqVC_sound _ _ _ _ hv a w hw hf
      refine opsRun_mono ?_ _ _ _ (opsRun_defers hop)
      rintro a' w' ⟨⟨e', hf', hq⟩, hdd⟩
      have hdd : a'.defers = [] := hdd.trans hd
      unfold deferVC at hq
      obtain ⟨callee, args, tys⟩ := cl
      cases callee with
      | value x' =>
        simp only at hq
        cases hhas : (e'.has x' && args.toList.all e'.has) with
        | false => simp only [hhas] at hq
        | true =>
          simp only [hhas] at hq
          simp only [Bool.and_eq_true] at hhas
          cases hev : e'.ev x' with
          | func fv first cap =>
            cases fv with
            | func g =>
              simp only [hev] at hq
              refine ⟨{ target := .fn (.func g) cap, args := first ++ args.map e'.ev }, fun w1 => ?_, ?_⟩
              · have hx : a'.eval x' = .func (.func g) first cap := by rw [has_eval hf' hhas.1, hev]
                have hargs : args.map a'.eval = args.map e'.ev := by
                  apply Array.ext (by simp)
                  intro i h1 h2
                  simp only [Array.getElem_map]
                  exact has_eval hf' (List.all_eq_true.1 hhas.2 _ (by simp))
                simp [resolve, hx, hargs, Deferred.ofValue]
              · show RD P y _ _ _
                refine RD.mono (rd_of_cw (vc_sound hm y 0 none _ e' w'.heap hq { a' with defers := _ } w' rfl hf') (noRF_of_spineOk hs.2)) ?_
                rintro xx a2 w2 ⟨⟨e2, hf2, hq2⟩, hd2⟩
                refine .inr ⟨g, cap, first ++ args.map e'.ev, e2, ?_, hf2, ?_⟩
                · rw [hd2, hdd]
                · cases xx with
                  | exit _ => exact hq2.elim
                  | normal => exact ⟨.inl rfl, hq2⟩
                  | ret => exact ⟨.inr rfl, hq2⟩
            | _ => simp only [hev] at hq
          | _ => simp only [hev] at hq
      | _ => exact hq.elim
    · refine rd_seq (RD.mono (base x _ e h hs.1 hv a w hw hf hd) ?_)
      rintro xx a2 w2 ⟨hd2, e2, hf2, hq2⟩
      cases xx with
      | normal => exact ih Q e2 _ hs.2 hq2 a2 w2 rfl hf2 hd2
      | exit id => exact .inl ⟨hd2, e2, hf2, hq2⟩
      | ret => exact .inl ⟨hd2, e2, hf2, hq2⟩
  | _ =>
    intro Q e h hs hv a w hw hf hd
    exact RD.mono (base _ Q e h hs hv a w hw hf hd) fun xx a2 w2 hq => .inl hq

end sound

def retP (P : Program) (fn : Func) (τ : Ty) (K : τ.T → HP) : Ex → Env → HP
  | .exit _ => fun _ _ => False
  | _ => fun e => resL P fn.results.toList e (fun vs => (unp τ).1 (retV vs) K)
def fnDVC (P : Program) (rt : List (Nat × Ty)) (nv : Nat) (fn : Func) (args : List Value) (τ : Ty) (K : τ.T → HP) (h : Heap) : Prop :=
  spineVC P rt nv fn.ntmps (codeOf fn) (retP P fn τ K) (argE 0 args) h

section fn
variable {P : Program}

theorem res_run {fn : Func} {e : Env} {a : Act} {τ : Ty} {K : τ.T → HP} (hfe : Fits fn.ntmps e a.tmps) (w : World) (hr : resL P fn.results.toList e (fun vs => (unp τ).1 (retV vs) K) w.heap) :
    ∃ v, (results fn a.tmps).run P w = .ok v w ∧ ∃ y : τ.T, v = τ.enc y ∧ K y w.heap := by
  obtain ⟨vs, hk, hl, hrun⟩ := resL_ok hfe _ _ w hr
  obtain ⟨y, hy, ev⟩ := (unp_sound _).1 _ _ _ hk
  refine ⟨retV vs, ?_, y, ev, hy⟩
  have e1 : results fn a.tmps = (do let vs ← fn.results.mapM (rv1 a.tmps); pure (if h : vs.size = 1 then vs[0] else .tuple vs)) := by
    unfold results
    rfl
  rw [e1, Array.mapM_eq_mapM_toList]
  simp [hrun]
  match vs with
  | [] => simp [retV]
  | [v] => simp [retV]
  | v :: u :: vs => simp [retV]

theorem fits_args {fn : Func} {args : List Value} (hn : args.length ≤ fn.ntmps) : Fits fn.ntmps (argE 0 args) (args.toArray ++ Array.replicate (fn.ntmps - args.toArray.size) undef) := by
  refine ⟨by simp; omega, fun t v ht => ?_⟩
  obtain ⟨_, h2⟩ := argE_find args 0 t v ht
  have hlt : t < args.length := by
    rcases Nat.lt_or_ge t args.length with h' | h'
    · exact h'
    · rw [List.getElem?_eq_none (by simpa using h')] at h2; cases h2
  rw [Array.getElem?_append_left (by simpa using hlt)]
  simpa using h2

theorem body_codeOf {fn : Func} (hb : fn.body.isSome = true) : fn.body = some (codeOf fn) := by
  unfold codeOf
  cases hbb : fn.body with
  | none => rw [hbb] at hb; cases hb
  | some c => rfl

theorem callsH_of_dfn (hm : P.follows .mixedOrders = true) {rt : List (Nat × Ty)} {nv f : Nat} {fn : Func} {args : List Value} {τ : Ty} {K : τ.T → HP} {h : Heap} (hf : P.funcs[f]? = some fn) (hb : fn.body.isSome = true)
    (hn : Nat.ble args.length fn.ntmps = true) (hok : spineOk (codeOf fn) = true) (hc : ∀ (a : Array Value) (w : World), (callFunc f a).run P w = .ok (.enter f a) w) (hv : fnDVC P rt nv fn args τ K h) :
    CallsH P f args.toArray h fun v h' => ∃ x : τ.T, v = τ.enc x ∧ K x h' := by
  refine callsH_of_calls (hc _) fun w hw => calls_of_ends (R := fun v w' => ∃ x : τ.T, v = τ.enc x ∧ K x w'.heap) ?_
  subst hw
  refine ends_of_rd .normal hf (body_codeOf hb) (RD.mono (spine_sound hm _ _ _ _ hok hv _ w rfl (fits_args (by simpa using hn)) rfl) ?_)
  rintro x a w' (⟨hd, e, hfe, hq⟩ | ⟨g, cap, as, e, hd, hfe, hx, hcf, hdc⟩)
  · cases x with
    | exit id => exact hq.elim
    | normal => obtain ⟨v, hr, hy⟩ := res_run hfe w' hq; exact ⟨.inl rfl, .inl ⟨hd, v, hr, hy⟩⟩
    | ret => obtain ⟨v, hr, hy⟩ := res_run hfe w' hq; exact ⟨.inr rfl, .inl ⟨hd, v, hr, hy⟩⟩
  · refine ⟨hx, .inr ⟨g, cap, as, hd, hcf, hdc.mono fun h2 hq w2 hw2 => ?_⟩⟩
    subst hw2
    rcases hx with rfl | rfl
    · obtain ⟨v, hr, hy⟩ := res_run hfe w2 hq; exact ⟨v, hr, hy⟩
    · obtain ⟨v, hr, hy⟩ := res_run hfe w2 hq; exact ⟨v, hr, hy⟩

theorem dcl_of_fn (hm : P.follows .mixedOrders = true) {rt : List (Nat × Ty)} {nv f : Nat} {fn : Func} {args : List Value} {τ : Ty} {K : τ.T → HP} {h : Heap} {R : HP} (hf : P.funcs[f]? = some fn) (hb : fn.body.isSome = true)
    (hn : Nat.ble args.length fn.ntmps = true) (hnr : noRF (codeOf fn) = true) (hc : ∀ (a : Array Value) (w : World), (callFunc f a).run P w = .ok (.enter f a) w) (hv : fnVC P rt nv fn args τ K h) (hR : ∀ x h', K x h' → R h') :
    dcl P f args.toArray R h := by
  refine ⟨hc _, dcall_of_ends (R := fun v w' => ∃ x : τ.T, v = τ.enc x ∧ K x w'.heap) (fun w hw => ?_) (fun v w' ⟨x, _, k⟩ => hR _ _ k)⟩
  subst hw
  refine ends_of_cw .deferred hf (body_codeOf hb) ((vc_sound hm (codeOf fn) w.heap.size none _ _ _ hv _ w rfl (fits_args (by simpa using hn))).mono ?_)
  rintro x a w' ⟨e, hfe, hq⟩
  have key : ∀ h'', (noRF (codeOf fn) = true → h'' = w'.heap) → resL P fn.results.toList e (fun vs => (unp τ).1 (retV vs) K) w'.heap → ∃ v, (results fn a.tmps).run P { w' with heap := h'' } = .ok v { w' with heap := h'' } ∧ ∃ y : τ.T, v = τ.enc y ∧ K y h'' := by
    intro h'' e2 hr
    have := e2 hnr
    subst this
    exact res_run hfe w' hr
  cases x with
  | exit id => exact hq.elim
  | normal =>
    refine ⟨.inl rfl, fun h'' hno hM => ?_⟩
    simp only [retQ, hnr] at hq
    exact key h'' hno hq
  | ret =>
    refine ⟨.inr rfl, fun h'' hno hM => ?_⟩
    simp only [retQ, hnr] at hq
    exact key h'' hno hq

end fn
end Go.Sx
