/-
  A function: its predicate, and its contract. Nothing here names a program.
-/
import Derived.Test.YtchedlkmgahicaaSx9
set_option linter.unusedVariables false
set_option linter.unusedSimpArgs false
namespace Go.Sx
open Go

def argE : Nat → List Value → Env
  | _, [] => []
  | i, v :: r => (i, v) :: argE (i + 1) r

def resL (P : Program) : List ResultVar → Env → (List Value → HP) → HP
  | [], _, K => K []
  | .tmp t :: r, e, K => fun h => (match e.find t with | some v => resL P r e (fun vs => K (v :: vs)) h | none => False)
  | .cell a t :: r, e, K => fun h => (match e.find a with | some (.pointer (some ad)) => ldVC P t ad (fun v => resL P r e (fun vs => K (v :: vs))) h | _ => False)

def retV : List Value → Value
  | [v] => v
  | vs => .tuple vs.toArray

def codeOf (f : Func) : Code := match f.body with | some c => c | none => .skip

def mkd (n0 : Nat) (K : HP) : HP := fun h' => ∀ h'', Marked n0 h' h'' → K h''

def retQ (P : Program) (fn : Func) (τ : Ty) (K : τ.T → HP) (n0 : Nat) : Ex → Env → HP
  | .exit _ => fun _ _ => False
  | _ => fun e =>
    (match noRF (codeOf fn) with
     | true => resL P fn.results.toList e (fun vs => (unp τ).1 (retV vs) K)
     | false => mkd n0 (resL P fn.results.toList e (fun vs => (unp τ).1 (retV vs) K)))

def fnVC (P : Program) (rt : List (Nat × Ty)) (nv : Nat) (fn : Func) (args : List Value) (τ : Ty) (K : τ.T → HP) (h : Heap) : Prop :=
  vc P rt nv fn.ntmps (codeOf fn) (retQ P fn τ K h.size) (argE 0 args) h

section fn
variable {P : Program}

theorem argE_find : ∀ (args : List Value) (i t : Nat) (v : Value), (argE i args).find t = some v → i ≤ t ∧ args[t - i]? = some v
  | [], i, t, v, h => by cases h
  | u :: r, i, t, v, h => by
    simp only [argE, Env.find] at h
    cases hb : Nat.beq i t with
    | true =>
      rw [hb] at h; simp at h; subst h
      have := Nat.eq_of_beq_eq_true hb
      subst this
      exact ⟨Nat.le_refl _, by simp⟩
    | false =>
      rw [hb] at h
      obtain ⟨h1, h2⟩ := argE_find r (i + 1) t v h
      refine ⟨by omega, ?_⟩
      have e : t - i = (t - (i + 1)) + 1 := by omega
      rw [e]; simpa using h2

def rv1 (tmps : Array Value) : ResultVar → Sem Value
  | .tmp t => pure (tmps.getD t undef)
  | .cell a t => do loadVar t (← asAddr (tmps.getD a undef))

theorem rv1_mapM {tmps : Array Value} {x : ResultVar} {v : Value} {r : List ResultVar} {vs : List Value} {w : World} (h1 : (rv1 tmps x).run P w = .ok v w) (h2 : (r.mapM (rv1 tmps)).run P w = .ok vs w) :
    ((x :: r).mapM (rv1 tmps)).run P w = .ok (v :: vs) w := by
  simp only [List.mapM_cons, Sem.run_bind, h1, h2, Result.andThen_ok]
  rfl

theorem resL_ok {N : Nat} {e : Env} {a : Act} (hf : Fits N e a.tmps) : ∀ (rs : List ResultVar) (K : List Value → HP) (w : World), resL P rs e K w.heap →
    ∃ vs, K vs w.heap ∧ vs.length = rs.length ∧ (rs.mapM (rv1 a.tmps)).run P w = .ok vs w
  | [], K, w, h => ⟨[], h, rfl, by simp [pure, Sem.run]⟩
  | .tmp t :: r, K, w, h => by
    simp only [resL] at h
    split at h
    · rename_i v hv
      obtain ⟨vs, hk, hl, hr⟩ := resL_ok hf r (fun vs => K (v :: vs)) w h
      refine ⟨v :: vs, hk, by simp [hl], rv1_mapM ?_ hr⟩
      simp [rv1, Array.getD_eq_getD_getElem?, hf.2 t v hv]
    · exact h.elim
  | .cell ad t :: r, K, w, h => by
    simp only [resL] at h
    split at h
    · rename_i ad' had
      obtain ⟨v, hv, hl⟩ := ldVC_ok (ρ := fun _ => .pointer (some ad')) (x := .tmp 0) rfl h
      obtain ⟨vs, hk, hle, hr⟩ := resL_ok hf r (fun vs => K (v :: vs)) w hv
      refine ⟨v :: vs, hk, by simp [hle], rv1_mapM ?_ hr⟩
      have hg : a.tmps.getD ad undef = .pointer (some ad') := by simp [Array.getD_eq_getD_getElem?, hf.2 ad _ had]
      have hload : (loadVar t ad').run P w = .ok v w := by
        have := hl.run (o := { dst := none, op := .load t (.tmp 0), type := 0, pos := "", after := #[], guard := none }) rfl w rfl
        simp [execOp, Instr.loadAt, Instr.sureAddr] at this
        cases hlv : (loadVar t ad').run P w with
        | ok v' w' => rw [hlv] at this; simp at this; obtain ⟨rfl, rfl⟩ := this; rfl
        | halt x w' => rw [hlv] at this; cases this
      simp only [rv1, hg, asAddr, Sem.run_bind]
      simpa using hload
    · exact h.elim

theorem calls_of_fn (hm : P.follows .mixedOrders = true) {rt : List (Nat × Ty)} {nv f : Nat} {fn : Func} {args : List Value} {τ : Ty} {K : τ.T → HP} {h : Heap} (hf : P.funcs[f]? = some fn) (hb : fn.body.isSome = true)
    (hn : Nat.ble args.length fn.ntmps = true) (hv : fnVC P rt nv fn args τ K h) (w : World) (hw : w.heap = h) :
    Calls P f args.toArray w fun e w' => ∃ v, e = .returned v ∧ (∃ x, v = τ.enc x ∧ K x w'.heap) ∧ Same w w' := by
  subst hw
  have hbody : fn.body = some (codeOf fn) := by
    unfold codeOf
    cases hbb : fn.body with
    | none => rw [hbb] at hb; cases hb
    | some c => rfl
  have hn' : args.length ≤ fn.ntmps := by simpa using hn
  refine calls_of_cw hf hbody ((vc_sound hm (codeOf fn) w.heap.size none _ _ _ hv { tmps := args.toArray ++ Array.replicate (fn.ntmps - args.toArray.size) undef, defers := [] } w rfl ?_).mono ?_)
  · refine ⟨by simp; omega, fun t v ht => ?_⟩
    obtain ⟨_, h2⟩ := argE_find args 0 t v ht
    have hlt : t < args.length := by
      rcases Nat.lt_or_ge t args.length with h' | h'
      · exact h'
      · rw [List.getElem?_eq_none (by simpa using h')] at h2; cases h2
    rw [Array.getElem?_append_left (by simpa using hlt)]
    simpa using h2
  · rintro x a w' ⟨e, hfe, hq⟩
    have fin : ∀ h'', resL P fn.results.toList e (fun vs => (unp τ).1 (retV vs) K) h'' → ∃ v, (results fn a.tmps).run P { w' with heap := h'' } = .ok v { w' with heap := h'' } ∧ ∃ y : τ.T, v = τ.enc y ∧ K y h'' := by
      intro h'' hr
      obtain ⟨vs, hk, hl, hrun⟩ := resL_ok hfe _ _ { w' with heap := h'' } hr
      obtain ⟨y, hy, ev⟩ := (unp_sound _).1 _ _ _ hk
      refine ⟨retV vs, ?_, y, ev, hy⟩
      have e1 : results fn a.tmps = (do let vs ← fn.results.mapM (rv1 a.tmps); pure (if h : vs.size = 1 then vs[0] else .tuple vs)) := by
        unfold results
        rfl
      rw [e1, Array.mapM_eq_mapM_toList]
      simp [hrun]
      match vs with
      | [] => simp [retV]
      | [v] => simp [retV]
      | v :: u :: vs => simp [retV]
    cases x with
    | exit id => exact hq.elim
    | normal =>
      refine ⟨.inl rfl, fun h'' hno hM => fin h'' ?_⟩
      simp only [retQ] at hq
      cases hr : noRF (codeOf fn) with
      | true => simp only [hr] at hq; rw [hno hr]; exact hq
      | false => simp only [hr] at hq; exact hq h'' hM
    | ret =>
      refine ⟨.inr rfl, fun h'' hno hM => fin h'' ?_⟩
      simp only [retQ] at hq
      cases hr : noRF (codeOf fn) with
      | true => simp only [hr] at hq; rw [hno hr]; exact hq
      | false => simp only [hr] at hq; exact hq h'' hM

theorem callsH_of_calls {f : Nat} {args : Array Value} {h : Heap} {R : Value → HP} (hc : ∀ (w : World), (callFunc f args).run P w = .ok (.enter f args) w)
    (hcalls : ∀ w : World, w.heap = h → Calls P f args w fun e w' => ∃ v, e = .returned v ∧ R v w'.heap ∧ Same w w') : CallsH P f args h R :=
  fun w hw => goes_enter (hc w) ((hcalls w hw).mono fun e w' ⟨v, e1, r, s⟩ => ⟨v, e1, s, r⟩)

theorem callsH_of_fn (hm : P.follows .mixedOrders = true) {rt : List (Nat × Ty)} {nv f : Nat} {fn : Func} {args : List Value} {τ : Ty} {K : τ.T → HP} {h : Heap} (hf : P.funcs[f]? = some fn) (hb : fn.body.isSome = true)
    (hn : Nat.ble args.length fn.ntmps = true) (hc : ∀ (a : Array Value) (w : World), (callFunc f a).run P w = .ok (.enter f a) w) (hv : fnVC P rt nv fn args τ K h) :
    CallsH P f args.toArray h fun v h' => ∃ x : τ.T, v = τ.enc x ∧ K x h' :=
  callsH_of_calls (hc _) (calls_of_fn hm hf hb hn hv)

theorem callV_func {g : Nat} {first cap args : Array Value} {h : Heap} {R : Value → HP} (hc : CallsH P g (first ++ args ++ cap) h R) : CallV P (.func (.func g) first cap) args h R := by
  intro w hw
  have : applyV (.func (.func g) first cap) args = callFunc g (first ++ args ++ cap) := by
    simp [applyV, Deferred.ofValue, invoke, bind, Sem.bind, pure]
  rw [this]
  exact hc w hw

end fn
end Go.Sx

set_option linter.unusedVariables false
set_option linter.unusedSimpArgs false
namespace Go.Sx
open Go

def lfp {σ : Type} (b : (σ → HP) → σ → HP) (s0 : σ) : HP := fun h => ∀ X : σ → HP, (∀ s h', b X s h' → X s h') → X s0 h
def jn {σ : Type} (k : σ → HP) (b : (σ → HP) → HP) : HP := fun h => ∀ J : σ → HP, (∀ s h', k s h' → J s h') → b J h
def cj (A B : HP) : HP := fun h => A h ∧ B h
def bAnd (k : IntKind) (a b : Int) : Int := k.wrap (BitVec.ofInt k.bits a &&& BitVec.ofInt k.bits b).toNat
def bXor (k : IntKind) (a b : Int) : Int := k.wrap (BitVec.ofInt k.bits a ^^^ BitVec.ofInt k.bits b).toNat
end Go.Sx
