/-
  The ground of the seat's walks: what a run of code does, said of frames that may be rounds of a range over a function. Nothing here names a program.
-/
import Derived.AtR
import Derived.Orders
import Derived.Below
set_option linter.unusedVariables false
set_option linter.unusedSimpArgs false
namespace Go.Sx
open Go

abbrev Heap := Array Obj
abbrev HP := Heap → Prop

structure Same (w w' : World) : Prop where
  os : w'.os = w.os
  tape : w'.tape = w.tape
  output : w'.output = w.output
  size : w.heap.size ≤ w'.heap.size
  marks : ∀ (b : Nat) ds, w.heap[b]? = some (.deferred ds) → w'.heap[b]? = some (.deferred ds)
  loops : ∀ (b : Nat) r, w.heap[b]? = some (.loop r) → ∃ r', w'.heap[b]? = some (.loop r') ∧ r'.fn = r.fn ∧ r'.tmps = r.tmps ∧ r'.params = r.params ∧ r'.assign = r.assign ∧ r'.body = r.body ∧ r'.defers = r.defers

theorem Same.refl (w : World) : Same w w := ⟨rfl, rfl, rfl, Nat.le_refl _, fun _ _ h => h, fun _ r h => ⟨r, h, rfl, rfl, rfl, rfl, rfl, rfl⟩⟩

theorem Same.trans {a b c : World} (h : Same a b) (k : Same b c) : Same a c where
  os := k.os.trans h.os
  tape := k.tape.trans h.tape
  output := k.output.trans h.output
  size := Nat.le_trans h.size k.size
  marks := fun i ds hi => k.marks i ds (h.marks i ds hi)
  loops := fun i r hi => by
    obtain ⟨r1, h1, a1, a2, a3, a4, a5, a6⟩ := h.loops i r hi
    obtain ⟨r2, h2, b1, b2, b3, b4, b5, b6⟩ := k.loops i r1 h1
    exact ⟨r2, h2, b1.trans a1, b2.trans a2, b3.trans a3, b4.trans a4, b5.trans a5, b6.trans a6⟩

theorem Same.drew (w : World) : Same w { w with drawn := w.drawn + 1 } := ⟨rfl, rfl, rfl, Nat.le_refl _, fun _ _ h => h, fun _ r h => ⟨r, h, rfl, rfl, rfl, rfl, rfl, rfl⟩⟩

theorem Same.of_heap {w w' : World} (ho : w'.os = w.os) (ht : w'.tape = w.tape) (hp : w'.output = w.output) (hs : w.heap.size ≤ w'.heap.size)
    (hk : ∀ (b : Nat) o, w.heap[b]? = some o → (∀ c e f, o ≠ .cells c e f) → w'.heap[b]? = some o) : Same w w' :=
  ⟨ho, ht, hp, hs, fun b ds h => hk b _ h (by intros; simp), fun b r h => ⟨r, hk b _ h (by intros; simp), rfl, rfl, rfl, rfl, rfl, rfl⟩⟩

theorem Same.push (w : World) (o : Obj) : Same w { w with heap := w.heap.push o } :=
  .of_heap rfl rfl rfl (by simp) fun b o' h _ => by
    show (w.heap.push o)[b]? = some o'
    have hlt : b < w.heap.size := by
      rcases Nat.lt_or_ge b w.heap.size with h' | h'
      · exact h'
      · simp [Array.getElem?_eq_none h'] at h
    rw [Array.getElem?_push, if_neg (by omega)]; exact h

theorem Same.setCell (w : World) (a : Addr) (v : Value) : Same w (w.setCell a v) :=
  .of_heap rfl rfl rfl (by simp [World.setCell]) fun b o h hc => by
    simp only [World.setCell, Array.getElem?_modify]
    split
    · rw [h]; cases o <;> first | exact absurd rfl (hc _ _ _) | rfl
    · exact h

def tdOk (td : List Item) : Prop := (∃ ops l k, td = .inRegion ops l :: k) ∨ (∃ l k, td = .inRangeFunc l :: k)

def Goes (P : Program) (s : Sem Next) (w : World) (R : Value → World → Prop) : Prop :=
  ∀ (fr : Frame) (cs : List Frame), True → tdOk fr.todo →
    ∃ v w' fr1 cs1 w1, R v w' ∧ (stepG.apply P true fr cs none s w).bare = .go { frame := fr1, callers := cs1, status := .running, dying := none } w1 ∧
      Steps P (lone fr1 cs1 w1) (lone (fr.finish v) cs w')

theorem Goes.mono {P : Program} {s : Sem Next} {w : World} {R R' : Value → World → Prop} (h : Goes P s w R) (hr : ∀ v w', R v w' → R' v w') : Goes P s w R' :=
  fun fr cs hk ht => let ⟨v, w', f1, c1, w1, r, a, b⟩ := h fr cs hk ht; ⟨v, w', f1, c1, w1, hr _ _ r, a, b⟩

theorem goes_value {P : Program} {s : Sem Next} {w w' : World} {v : Value} {R : Value → World → Prop} (h : s.run P w = .ok (.value v) w') (hR : R v w') : Goes P s w R :=
  fun fr cs hk _ => ⟨v, w', fr.finish v, cs, w', hR, by simp [stepG.apply, Sem.runT_eq, h], Steps.refl _ _⟩

theorem goes_skip {P : Program} {s : Sem Next} {w w' : World} {R : Value → World → Prop} (h : s.run P w = .ok .skip w') (hR : R undef w') : Goes P s w R :=
  fun fr cs hk _ => ⟨undef, w', fr.finish undef, cs, w', hR, by simp [stepG.apply, Sem.runT_eq, h], Steps.refl _ _⟩

theorem goes_enter {P : Program} {s : Sem Next} {w w1 : World} {f : FuncId} {args : Array Value} {R : Value → World → Prop} (h : s.run P w = .ok (.enter f args) w1)
    (hc : Calls P f args w1 fun e w' => ∃ v, e = .returned v ∧ R v w') : Goes P s w R := by
  intro fr cs hk ht
  obtain ⟨e, w', fr', ⟨v, rfl, hR⟩, hcm, hfn, hl⟩ := hc (fr :: cs)
  refine ⟨v, w', Frame.enter P f args .normal, fr :: cs, w1, hR, ?_, Steps.trans hcm (.one (step_leave_returned hl))⟩
  rcases ht with ⟨ops, l, k, e⟩ | ⟨l, k, e⟩ <;> simp [stepG.apply, Sem.runT_eq, h, e]

def mk (r : Nat) : Deferred := { target := .collected r, args := #[] }
def MOk (n0 : Nat) (D df : List Deferred) (h : Heap) : Prop :=
  ∃ ms : List Nat, df = ms.map mk ++ D ∧ ms.Nodup ∧ ∀ r ∈ ms, n0 ≤ r ∧ h[r]? = some (.deferred (some []))

theorem MOk.nil (n0 : Nat) (D : List Deferred) (h : Heap) : MOk n0 D D h := ⟨[], rfl, .nil, fun _ h => by cases h⟩
theorem MOk.same {n0 : Nat} {D df : List Deferred} {w w' : World} (h : MOk n0 D df w.heap) (k : Same w w') : MOk n0 D df w'.heap :=
  let ⟨ms, e, nd, hm⟩ := h; ⟨ms, e, nd, fun r hr => ⟨(hm r hr).1, k.marks r _ (hm r hr).2⟩⟩

inductive Ex where
  | normal
  | exit (id : Nat)
  | ret

def Arr (P : Program) (m : Machine) (b : Frame) (k : List Item) (cs : List Frame) : Ex → Act → World → Prop
  | .normal, a, w => Steps P m (lone (b.atR a k) cs w)
  | .exit id, a, w => ∃ td, exitTo id td = exitTo id k ∧ Steps P m (lone (b.atR a (.code (.exit id) :: td)) cs w)
  | .ret, a, w => ∃ td, Steps P m (lone (b.atR a (.code .ret :: td)) cs w)

theorem Arr.of_steps {P : Program} {m m1 : Machine} {b : Frame} {k : List Item} {cs : List Frame} {x : Ex} {a : Act} {w : World} (h : Steps P m m1) (h' : Arr P m1 b k cs x a w) : Arr P m b k cs x a w := by
  cases x with
  | normal => exact h.trans h'
  | exit id => obtain ⟨td, e, s⟩ := h'; exact ⟨td, e, h.trans s⟩
  | ret => obtain ⟨td, s⟩ := h'; exact ⟨td, h.trans s⟩

def noRF : Code → Bool
  | .seq a b | .cond _ a b => noRF a && noRF b
  | .block _ c | .loop c | .scope c => noRF c
  | .rangeFunc .. => false
  | _ => true

def RoOk (ro : Option Nat) (w : World) : Prop := ∀ l, ro = some l → ∃ r, w.heap[l]? = some (.loop r)
theorem RoOk.same {ro : Option Nat} {w w' : World} (h : RoOk ro w) (k : Same w w') : RoOk ro w' := fun l e => let ⟨r, hr⟩ := h l e; let ⟨r', h', _⟩ := k.loops l r hr; ⟨r', h'⟩

def plainOp (o : Oper) : Bool := match o.op with | .move _ | .assign _ | .alloc _ | .store .. => true | _ => false
def plainC : Code → Bool
  | .skip => true
  | .region _ ops _ => ops.all plainOp
  | .seq a b => plainC a && plainC b
  | _ => false
def KeepNC (w w' : World) : Prop := ∀ (b : Nat) o, w.heap[b]? = some o → (∀ c e f, o ≠ .cells c e f) → w'.heap[b]? = some o
theorem KeepNC.refl (w : World) : KeepNC w w := fun _ _ h _ => h
theorem KeepNC.trans {a b c : World} (h : KeepNC a b) (k : KeepNC b c) : KeepNC a c := fun i o hi hn => k i o (h i o hi hn) hn

def asg : Code → List Nat
  | .region _ ops _ => ops.toList.filterMap (·.dst)
  | .seq a b | .cond _ a b => asg a ++ asg b
  | .block _ c | .loop c | .scope c => asg c
  | _ => []

def Still (c : Code) (a a' : Act) : Prop := ∀ t, t ∉ asg c → a'.tmps[t]? = a.tmps[t]?

def CW (P : Program) (n0 : Nat) (ro : Option Nat) (c : Code) (Q : Ex → Act → World → Prop) (a : Act) (w : World) : Prop :=
  ∀ (D : List Deferred) (b : Frame) (k : List Item) (cs : List Frame), True → b.roundOf = ro → RoOk ro w → MOk n0 D a.defers w.heap → n0 ≤ w.heap.size →
    ∃ x a' w', Q x a' w' ∧ MOk n0 D a'.defers w'.heap ∧ (noRF c = true → a'.defers = a.defers) ∧ (plainC c = true → KeepNC w w') ∧ Still c a a' ∧ Same w w' ∧ Arr P (lone (b.atR a (.code c :: k)) cs w) b k cs x a' w'

section rules
variable {P : Program} {n0 : Nat} {ro : Option Nat} {Q : Ex → Act → World → Prop} {a : Act} {w : World}

theorem CW.mono {c : Code} {Q' : Ex → Act → World → Prop} (h : CW P n0 ro c Q a w) (hq : ∀ x a w, Q x a w → Q' x a w) : CW P n0 ro c Q' a w :=
  fun D b k cs h1 h2 h3 h4 h5 => let ⟨x, a', w', q, r⟩ := h D b k cs h1 h2 h3 h4 h5; ⟨x, a', w', hq _ _ _ q, r⟩

theorem cw_skip (h : Q .normal a w) : CW P n0 ro .skip Q a w := fun _ _ _ _ _ _ _ hm _ => ⟨.normal, a, w, h, hm, fun _ => rfl, fun _ => .refl _, fun _ _ => rfl, .refl _, .one stepR_skip⟩
theorem cw_label {l : Nat} (h : Q .normal a w) : CW P n0 ro (.label l) Q a w := fun _ _ _ _ _ _ _ hm _ => ⟨.normal, a, w, h, hm, fun _ => rfl, fun _ => .refl _, fun _ _ => rfl, .refl _, .one stepR_label⟩
theorem cw_exit {id : Nat} (h : Q (.exit id) a w) : CW P n0 ro (.exit id) Q a w := fun _ _ k _ _ _ _ hm _ => ⟨.exit id, a, w, h, hm, fun _ => rfl, fun _ => .refl _, fun _ _ => rfl, .refl _, k, rfl, .refl _ _⟩
theorem cw_ret (h : Q .ret a w) : CW P n0 ro .ret Q a w := fun _ _ k _ _ _ _ hm _ => ⟨.ret, a, w, h, hm, fun _ => rfl, fun _ => .refl _, fun _ _ => rfl, .refl _, k, .refl _ _⟩

def thenQ (K : Act → World → Prop) (Q : Ex → Act → World → Prop) : Ex → Act → World → Prop
  | .normal, a, w => K a w
  | .exit id, a, w => Q (.exit id) a w
  | .ret, a, w => Q .ret a w

theorem cw_seq {x y : Code} (h : CW P n0 ro x (thenQ (CW P n0 ro y Q) Q) a w) : CW P n0 ro (.seq x y) Q a w := by
  intro D b k cs hk hb hr hm hn
  obtain ⟨e, a1, w1, q, m1, d1, p1, t1, s1, arr⟩ := h D b (.code y :: k) cs hk hb hr hm hn
  have ht : ∀ a2, Still y a1 a2 → Still (.seq x y) a a2 := fun a2 t2 t ht => by
    simp only [asg, List.mem_append, not_or] at ht
    exact (t2 t ht.2).trans (t1 t ht.1)
  have ht1 : Still (.seq x y) a a1 := ht a1 fun _ _ => rfl
  cases e with
  | normal =>
    obtain ⟨e2, a2, w2, q2, m2, d2, p2, t2, s2, arr2⟩ := q D b k cs hk hb (hr.same s1) m1 (Nat.le_trans hn s1.size)
    exact ⟨e2, a2, w2, q2, m2, fun h => by simp only [noRF, Bool.and_eq_true] at h; exact (d2 h.2).trans (d1 h.1), fun h => by simp only [plainC, Bool.and_eq_true] at h; exact (p1 h.1).trans (p2 h.2), ht a2 t2, s1.trans s2, .of_steps (.head stepR_seq arr) arr2⟩
  | exit id =>
    obtain ⟨td, e, s⟩ := arr
    exact ⟨.exit id, a1, w1, q, m1, fun h => by simp only [noRF, Bool.and_eq_true] at h; exact d1 h.1, fun h => by simp only [plainC, Bool.and_eq_true] at h; exact p1 h.1, ht1, s1, td, e.trans (by simp [exitTo]), .head stepR_seq s⟩
  | ret =>
    obtain ⟨td, s⟩ := arr
    exact ⟨.ret, a1, w1, q, m1, fun h => by simp only [noRF, Bool.and_eq_true] at h; exact d1 h.1, fun h => by simp only [plainC, Bool.and_eq_true] at h; exact p1 h.1, ht1, s1, td, .head stepR_seq s⟩

theorem cw_cond {c : Operand} {x y : Code} {t : Bool} (hc : a.eval c = .bool t) (h : CW P n0 ro (if t then x else y) Q a w) : CW P n0 ro (.cond c x y) Q a w := by
  intro D b k cs hk hb hr hm hn
  obtain ⟨e, a1, w1, q, m1, d1, _, t1, s1, arr⟩ := h D b k cs hk hb hr hm hn
  refine ⟨e, a1, w1, q, m1, fun hh => d1 ?_, fun h => by simp [plainC] at h, fun t' ht => t1 t' ?_, s1, .of_steps (.one (stepR_cond hc)) arr⟩
  · simp only [noRF, Bool.and_eq_true] at hh
    cases t
    · exact hh.2
    · exact hh.1
  · simp only [asg, List.mem_append, not_or] at ht
    cases t
    · exact ht.2
    · exact ht.1

def blockQ (id : Nat) (Q : Ex → Act → World → Prop) : Ex → Act → World → Prop
  | .normal, a, w => Q .normal a w
  | .exit id', a, w => bif Nat.beq id' id then Q .normal a w else Q (.exit id') a w
  | .ret, a, w => Q .ret a w

theorem cw_block {id : Nat} {c : Code} (h : CW P n0 ro c (blockQ id Q) a w) : CW P n0 ro (.block id c) Q a w := by
  intro D b k cs hk hb hr hm hn
  obtain ⟨e, a1, w1, q, m1, d1, _, t1, s1, arr⟩ := h D b (.inBlock id :: k) cs hk hb hr hm hn
  cases e with
  | normal => exact ⟨.normal, a1, w1, q, m1, d1, (fun h => by simp [plainC] at h), t1, s1, .head stepR_block (Steps.trans arr (.one stepR_inBlock))⟩
  | exit id' =>
    obtain ⟨td, e, s⟩ := arr
    by_cases hid : id' = id
    · subst hid
      simp only [blockQ, Nat.beq_refl, cond_true] at q
      exact ⟨.normal, a1, w1, q, m1, d1, (fun h => by simp [plainC] at h), t1, s1, .head stepR_block (Steps.trans s (.one (stepR_exit (by rw [e]; simp [exitTo]))))⟩
    · have hb : Nat.beq id' id = false := by
        cases hh : Nat.beq id' id with
        | false => rfl
        | true => exact absurd (Nat.eq_of_beq_eq_true hh) hid
      simp only [blockQ, hb, cond_false] at q
      refine ⟨.exit id', a1, w1, q, m1, d1, (fun h => by simp [plainC] at h), t1, s1, td, ?_, .head stepR_block s⟩
      rw [e]
      have : (id == id') = false := by simp; exact fun h => hid h.symm
      simp [exitTo, this]
  | ret => obtain ⟨td, s⟩ := arr; exact ⟨.ret, a1, w1, q, m1, d1, (fun h => by simp [plainC] at h), t1, s1, td, .head stepR_block s⟩

theorem cw_scope {c : Code} (h : CW P n0 ro c Q a w) : CW P n0 ro (.scope c) Q a w := by
  intro D b k cs hk hb hr hm hn
  obtain ⟨e, a1, w1, q, m1, d1, _, t1, s1, arr⟩ := h D b (.inScope c :: k) cs hk hb hr hm hn
  have st : step P (lone (b.atR a (.code (.scope c) :: k)) cs w) = .next (lone (b.atR a (.code c :: .inScope c :: k)) cs w) := step_lone_go (by simp [stepG, stepG.exec, Frame.atR])
  have st2 : step P (lone (b.atR a1 (.inScope c :: k)) cs w1) = .next (lone (b.atR a1 k) cs w1) := step_lone_go (by simp [stepG, stepG.exec, Frame.atR])
  cases e with
  | normal => exact ⟨.normal, a1, w1, q, m1, d1, (fun h => by simp [plainC] at h), t1, s1, .head st (Steps.trans arr (.one st2))⟩
  | exit id => obtain ⟨td, e, s⟩ := arr; exact ⟨.exit id, a1, w1, q, m1, d1, (fun h => by simp [plainC] at h), t1, s1, td, e.trans (by simp [exitTo]), .head st s⟩
  | ret => obtain ⟨td, s⟩ := arr; exact ⟨.ret, a1, w1, q, m1, d1, (fun h => by simp [plainC] at h), t1, s1, td, .head st s⟩

theorem cw_loop {c : Code} (h : ∀ X : Act → World → Prop, (∀ a w, CW P n0 ro c (thenQ X Q) a w → X a w) → X a w) : CW P n0 ro (.loop c) Q a w := by
  have key := h (fun a w => ∀ (D : List Deferred) (b : Frame) (k : List Item) (cs : List Frame), True → b.roundOf = ro → RoOk ro w → MOk n0 D a.defers w.heap → n0 ≤ w.heap.size →
    ∃ x a' w', Q x a' w' ∧ MOk n0 D a'.defers w'.heap ∧ (noRF c = true → a'.defers = a.defers) ∧ Still c a a' ∧ Same w w' ∧ Arr P (lone (b.atR a (.code c :: .inLoop c :: k)) cs w) b k cs x a' w') ?_
  · intro D b k cs hk hb hr hm hn
    obtain ⟨x, a', w', q, m1, d1, t1, s1, arr⟩ := key D b k cs hk hb hr hm hn
    exact ⟨x, a', w', q, m1, d1, fun h => by simp [plainC] at h, t1, s1, .of_steps (.one stepR_loop) arr⟩
  · intro a w hc D b k cs hk hb hr hm hn
    obtain ⟨e, a1, w1, q, m1, d1, _, t1, s1, arr⟩ := hc D b (.inLoop c :: k) cs hk hb hr hm hn
    cases e with
    | normal =>
      obtain ⟨e2, a2, w2, q2, m2, d2, t2, s2, arr2⟩ := q D b k cs hk hb (hr.same s1) m1 (Nat.le_trans hn s1.size)
      exact ⟨e2, a2, w2, q2, m2, fun h => (d2 h).trans (d1 h), fun t ht => (t2 t ht).trans (t1 t ht), s1.trans s2, .of_steps (Steps.trans arr (.one stepR_inLoop)) arr2⟩
    | exit id => obtain ⟨td, e, s⟩ := arr; exact ⟨.exit id, a1, w1, q, m1, d1, t1, s1, td, e.trans (by simp [exitTo]), s⟩
    | ret => obtain ⟨td, s⟩ := arr; exact ⟨.ret, a1, w1, q, m1, d1, t1, s1, td, s⟩

theorem CW.mono_still {c : Code} {Q' : Ex → Act → World → Prop} (h : CW P n0 ro c Q a w) (hq : ∀ x a' w', Still c a a' → Q x a' w' → Q' x a' w') : CW P n0 ro c Q' a w :=
  fun D b k cs h1 h2 h3 h4 h5 => let ⟨x, a', w', q, m, d, p, t, r⟩ := h D b k cs h1 h2 h3 h4 h5; ⟨x, a', w', hq _ _ _ t q, m, d, p, t, r⟩

end rules

def notDefer (o : Oper) : Bool := match o.op with | .defer _ => false | _ => true

section region
variable (P : Program) (ops : Array Oper)

def OpGo (i : Nat) (K : Act → World → Prop) (a : Act) (w : World) : Prop :=
  match ops[i]? with
  | none => False
  | some o =>
    notDefer o = true ∧ (if Region.wanted o (yielded ops a.tmps) = true then Goes P (execOp a.eval o) w (fun v w' => Same w w' ∧ (plainOp o = true → KeepNC w w') ∧ K (a.put o.dst v) w') else K (a.put o.dst undef) w)

def OpsRun (Q : Act → World → Prop) : List Nat → Act → World → Prop
  | [], a, w => Q a w
  | i :: rest, a, w => OpGo P ops i (OpsRun Q rest) a w

def AnyRun (Q : Act → World → Prop) : Nat → Array Bool → Act → World → Prop
  | 0, listed, a, w => Region.ready .any ops listed = [] ∧ Q a w
  | fuel + 1, listed, a, w => (Region.ready .any ops listed = [] → Q a w) ∧ ∀ i ∈ Region.ready .any ops listed, OpGo P ops i (AnyRun Q fuel (listed.setIfInBounds i true)) a w

variable {P ops}
theorem OpGo.mono {i : Nat} {K K' : Act → World → Prop} {a : Act} {w : World} (h : OpGo P ops i K a w) (hk : ∀ a w, K a w → K' a w) : OpGo P ops i K' a w := by
  unfold OpGo at h ⊢
  split at h
  · exact h
  · obtain ⟨hd, h⟩ := h
    refine ⟨hd, ?_⟩
    split at h
    · rename_i hw; rw [if_pos hw]; exact h.mono fun v w' ⟨s, p, q⟩ => ⟨s, p, hk _ _ q⟩
    · rename_i hw; rw [if_neg hw]; exact hk _ _ h

theorem anyRun_sound {Q : Act → World → Prop} : ∀ (fuel t : Nat) (listed : Array Bool) (a : Act) (w : World), AnyRun P ops Q fuel listed a w →
    OpsRun P ops Q (Region.linearise.go .any ops fuel t listed []) a w := by
  intro fuel
  induction fuel with
  | zero => intro t listed a w h; simpa [Region.linearise.go, OpsRun] using h.2
  | succ fuel ih =>
    intro t listed a w h
    obtain ⟨h₀, h₁⟩ := h
    simp only [Region.linearise.go]
    change OpsRun P ops Q (match (Region.ready .any ops listed)[t % (Region.ready .any ops listed).length]? with
      | some i => Region.linearise.go .any ops fuel (t / (Region.ready .any ops listed).length) (listed.setIfInBounds i true) [i]
      | none => [].reverse) a w
    cases hi : (Region.ready .any ops listed)[t % (Region.ready .any ops listed).length]? with
    | none =>
      have hnil : Region.ready .any ops listed = [] := by
        cases hr : Region.ready .any ops listed with
        | nil => rfl
        | cons x xs =>
          rw [hr] at hi
          have hlt : t % (x :: xs).length < (x :: xs).length := Nat.mod_lt _ (by simp)
          simp at hi
          simp at hlt
          omega
      simpa [OpsRun] using h₀ hnil
    | some i =>
      simp only []
      rw [linearise_go_acc, List.reverse_singleton, List.singleton_append]
      exact (h₁ i (List.mem_of_getElem? hi)).mono fun a w h => ih _ _ a w h

theorem opsRun_steps {ro : Option Nat} {n0 : Nat} {Q : Act → World → Prop} : ∀ (l : List Nat) (a : Act) (w : World), OpsRun P ops Q l a w →
    ∀ (D : List Deferred) (b : Frame) (k : List Item) (cs : List Frame), True → b.roundOf = ro → MOk n0 D a.defers w.heap →
      ∃ a' w', Q a' w' ∧ a'.defers = a.defers ∧ (ops.all plainOp = true → KeepNC w w') ∧ (∀ t, t ∉ ops.toList.filterMap (·.dst) → a'.tmps[t]? = a.tmps[t]?) ∧ MOk n0 D a'.defers w'.heap ∧ Same w w' ∧ Steps P (lone (b.atR a (.inRegion ops l :: k)) cs w) (lone (b.atR a' k) cs w') := by
  intro l
  induction l with
  | nil => exact fun a w h D b k cs _ _ hm => ⟨a, w, h, rfl, fun _ => .refl _, fun _ _ => rfl, hm, .refl _, .one stepR_region_end⟩
  | cons i rest ih =>
    intro a w h D b k cs hk hb hm
    simp only [OpsRun, OpGo] at h
    split at h
    · exact h.elim
    · rename_i o ho
      obtain ⟨hd, h⟩ := h
      have pd : ∀ v, (a.put o.dst v).defers = a.defers := by intro v; cases o.dst <;> rfl
      have pt : ∀ v t, t ∉ ops.toList.filterMap (·.dst) → (a.put o.dst v).tmps[t]? = a.tmps[t]? := by
        intro v t ht
        cases hdst : o.dst with
        | none => rfl
        | some d =>
          have hne : d ≠ t := fun e => ht (List.mem_filterMap.2 ⟨o, List.mem_of_getElem? (i := i) (by simpa using ho), by rw [hdst, e]⟩)
          simp [Act.put, Array.getElem?_setIfInBounds, hne]
      have hpl : ops.all plainOp = true → plainOp o = true := fun hp => by
        obtain ⟨hi, e⟩ := Array.getElem?_eq_some_iff.1 ho
        have := Array.all_eq_true.1 hp i hi
        rwa [e] at this
      split at h
      · rename_i hw
        obtain ⟨v, w1, fr1, cs1, w0, ⟨s1, p1, q⟩, hap, hst⟩ := h (b.atR a (.inRegion ops (i :: rest) :: k)) cs hk (.inl ⟨_, _, _, rfl⟩)
        rw [Frame.finish_atR, ho] at hst
        simp only [Option.bind_some] at hst
        obtain ⟨a', w', q', d', p', t', m', s', st'⟩ := ih _ _ q D b k cs hk hb (by rw [pd]; exact hm.same s1)
        refine ⟨a', w', q', d'.trans (pd v), fun hp => (p1 (hpl hp)).trans (p' hp), fun t ht => (t' t ht).trans (pt _ t ht), m', s1.trans s', .head ?_ (Steps.trans hst st')⟩
        refine step_lone_go ?_
        rw [stepGR_op ho hw]
        have : o.semAt b.roundOf a.eval = execOp a.eval o := Oper.semAt_eq _ _ _ (by intro c e; simp [notDefer, e] at hd)
        rw [this]; exact hap
      · rename_i hw
        obtain ⟨a', w', q', d', p', t', m', s', st'⟩ := ih _ _ h D b k cs hk hb (by rw [pd]; exact hm)
        refine ⟨a', w', q', d'.trans (pd _), p', fun t ht => (t' t ht).trans (pt _ t ht), m', s', .head (stepR_op_skip (by simp [ho]; simpa using hw)) ?_⟩
        simpa [ho] using st'

theorem cw_region {n0 : Nat} {ro : Option Nat} {id : Nat} {Q : Ex → Act → World → Prop} {a : Act} {w : World} (h : OpsRun P ops (Q .normal) (List.range ops.size) a w) :
    CW P n0 ro (.region id ops false) Q a w := by
  intro D b k cs hk hb hr hm hn
  obtain ⟨a', w', q, d, p, t, m, s, st⟩ := opsRun_steps _ _ _ h D b k cs hk hb hm
  exact ⟨.normal, a', w', q, m, fun _ => d, p, t, s, .head stepR_region st⟩

theorem cw_region_draw {n0 : Nat} {ro : Option Nat} {id : Nat} {Q : Ex → Act → World → Prop} {a : Act} {w : World} (hm : P.follows .mixedOrders = true)
    (h : ∀ w1 : World, w1.heap = w.heap → AnyRun P ops (Q .normal) ops.size (Array.replicate ops.size false) a w1) : CW P n0 ro (.region id ops true) Q a w := by
  intro D b k cs hk hb hr hmk hn
  have h1 := anyRun_sound _ (w.tape w.drawn (.order b.fn id)) _ _ _ (h { w with drawn := w.drawn + 1 } rfl)
  obtain ⟨a', w', q, d, p, t, m, s, st⟩ := opsRun_steps _ _ _ h1 D b k cs hk hb (hmk.same (.drew w))
  refine ⟨.normal, a', w', q, m, fun _ => d, fun hp => ?_, t, (Same.drew w).trans s, .head stepR_region_draw ?_⟩
  · exact fun i o hi hn => p hp i o hi hn
  · simpa [hm, Region.schedule, Region.linearise] using st
end region

end Go.Sx
