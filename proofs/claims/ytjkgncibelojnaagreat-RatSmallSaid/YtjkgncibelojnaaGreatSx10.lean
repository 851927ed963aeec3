/-
  A function: its predicate, and its contract. Nothing here names a program.
-/
import Derived.Test.YtjkgncibelojnaaGreatSx9
set_option linter.unusedVariables false
set_option linter.unusedSimpArgs false
namespace Go.Sx
open Go
def argE : Nat → List Value → Env
  | _, [] => []
  | i, v :: r => (i, v) :: argE (i + 1) r
def resL (P : Program) : List ResultVar → Env → (List Value → HP) → HP
  | [], _, K => K []
  | .tmp t :: r, e, K => fun h => (match e.find t with | some v => resL P r e (fun vs => K (v :: vs)) h | none => False)
  | .cell a t :: r, e, K => fun h => (match e.find a with | some (.pointer (some ad)) => ldVC P t ad (fun v => resL P r e (fun vs => K (v :: vs))) h | _ => False)
def retV : List Value → Value
  | [v] => v
  | vs => .tuple vs.toArray
def codeOf (f : Func) : Code := match f.body with | some c => c | none => .skip
def mkd (n0 : Nat) (K : HP) : HP := fun h' => ∀ h'', Marked n0 h' h'' → K h''
def retQ (P : Program) (fn : Func) (τ : Ty) (K : τ.T → HP) (n0 : Nat) : Ex → Env → HP
  | .exit _ => fun _ _ => False
  | _ => fun e =>
    (match noRF (codeOf fn) with
     | true => resL P fn.results.toList e (fun vs => (unp τ).1 (retV vs) K)
     | false => mkd n0 (resL P fn.results.toList e (fun vs => (unp τ).1 (retV vs) K)))
def fnVC (P : Program) (rt : List (Nat × Ty)) (nv : Nat) (fn : Func) (args : List Value) (τ : Ty) (K : τ.T → HP) (h : Heap) : Prop :=
  vc P rt nv fn.ntmps (codeOf fn) (retQ P fn τ K h.size) (argE 0 args) h
section fn
variable {P : Program}
theorem argE_find : ∀ (args : List Value) (i t : Nat) (v : Value), (argE i args).find t = some v → i ≤ t ∧ args[t - i]? = some v
  | [], i, t, v, h => by cases h
  | u :: r, i, t, v, h => by
    simp only [argE, Env.find] at h
    cases hb : Nat.beq i t with
    | true =>
      rw [hb] at h; simp at h; subst h
      have := Nat.eq_of_beq_eq_true hb
      subst this
      exact ⟨Nat.le_refl _, by simp⟩
    | false =>
      rw [hb] at h
      obtain ⟨h1, h2⟩ := argE_find r (i + 1) t v h
      refine ⟨by omega, ?_⟩
      have e : t - i = (t - (i + 1)) + 1 := by omega
      rw [e]; simpa using h2
def rv1 (tmps : Array Value) : ResultVar → Sem Value
  | .tmp t => pure (tmps.getD t undef)
  | .cell a t => do loadVar t (← asAddr (tmps.getD a undef))
theorem rv1_mapM {tmps : Array Value} {x : ResultVar} {v : Value} {r : List ResultVar} {vs : List Value} {w : World} (h1 : (rv1 tmps x).run P w = .ok v w) (h2 : (r.mapM (rv1 tmps)).run P w = .ok vs w) :
    ((x :: r).mapM (rv1 tmps)).run P w = .ok (v :: vs) w := by
  simp only [List.mapM_cons, Sem.run_bind, h1, h2, Result.andThen_ok]
  rfl
theorem resL_ok {N : Nat} {e : Env} {a : Act} (hf : Fits N e a.tmps) : ∀ (rs : List ResultVar) (K : List Value → HP) (w : World), resL P rs e K w.heap →
    ∃ vs, K vs w.heap ∧ vs.length = rs.length ∧ (rs.mapM (rv1 a.tmps)).run P w = .ok vs w
  | [], K, w, h => ⟨[], h, rfl, by simp [pure, Sem.run]⟩
  | .tmp t :: r, K, w, h => by
    simp only [resL] at h
    split at h
    · rename_i v hv
      obtain ⟨vs, hk, hl, hr⟩ := resL_ok hf r (fun vs => K (v :: vs)) w h
      refine ⟨v :: vs, hk, by simp [hl], rv1_mapM ?_ hr⟩
      simp [rv1, Array.getD_eq_getD_getElem?, hf.2 t v hv]
    · exact h.elim
  | .cell ad t :: r, K, w, h => by
    simp only [resL] at h
    split at h
    · rename_i ad' had
      obtain ⟨v, hv, hl⟩ := ldVC_ok (ρ := fun _ => .pointer (some ad')) (x := .tmp 0) rfl h
      obtain ⟨vs, hk, hle, hr⟩ := resL_ok hf r (fun vs => K (v :: vs)) w hv
      refine ⟨v :: vs, hk, by simp [hle], rv1_mapM ?_ hr⟩
      have hg : a.tmps.getD ad undef = .pointer (some ad') := by simp [Array.getD_eq_getD_getElem?, hf.2 ad _ had]
      have hload : (loadVar t ad').run P w = .ok v w := by
        have := hl.run (o := { dst := none, op := .load t (.tmp 0), type := 0, pos := "", after := #[], guard := none }) rfl w rfl
        simp [execOp, Instr.loadAt, Instr.sureAddr] at this
        cases hlv : (loadVar t ad').run P w with
        | ok v' w' => rw [hlv] at this; simp at this; obtain ⟨rfl, rfl⟩ := this; rfl
        | halt x w' => rw [hlv] at this; cases this
      simp only [rv1, hg, asAddr, Sem.run_bind]
      simpa using hload
    · exact h.elim
theorem calls_of_fn (hm : P.follows .mixedOrders = true) {rt : List (Nat × Ty)} {nv f : Nat} {fn : Func} {args : List Value} {τ : Ty} {K : τ.T → HP} {h : Heap} (hf : P.funcs[f]? = some fn) (hb : fn.body.isSome = true)
    (hn : Nat.ble args.length fn.ntmps = true) (hv : fnVC P rt nv fn args τ K h) (w : World) (hw : w.heap = h) :
    Calls P f args.toArray w fun e w' => ∃ v, e = .returned v ∧ (∃ x, v = τ.enc x ∧ K x w'.heap) ∧ Same w w' := by
  subst hw
  have hbody : fn.body = some (codeOf fn) := by
    unfold codeOf
    cases hbb : fn.body with
    | none => rw [hbb] at hb; cases hb
    | some c => rfl
  have hn' : args.length ≤ fn.ntmps := by simpa using hn
  refine calls_of_cw hf hbody ((vc_sound hm (codeOf fn) w.heap.size none _ _ _ hv { tmps := args.toArray ++ Array.replicate (fn.ntmps - args.toArray.size) undef, defers := [] } w rfl ?_).mono ?_)
  · refine ⟨by simp; omega, fun t v ht => ?_⟩
    obtain ⟨_, h2⟩ := argE_find args 0 t v ht
    have hlt : t < args.length := by
      rcases Nat.lt_or_ge t args.length with h' | h'
      · exact h'
      · rw [List.getElem?_eq_none (by simpa using h')] at h2; cases h2
    rw [Array.getElem?_append_left (by simpa using hlt)]
    simpa using h2
  · rintro x a w' ⟨e, hfe, hq⟩
    have fin : ∀ h'', resL P fn.results.toList e (fun vs => (unp τ).1 (retV vs) K) h'' → ∃ v, (results fn a.tmps).run P { w' with heap := h'' } = .ok v { w' with heap := h'' } ∧ ∃ y : τ.T, v = τ.enc y ∧ K y h'' := by
      intro h'' hr
      obtain ⟨vs, hk, hl, hrun⟩ := resL_ok hfe _ _ { w' with heap := h'' } hr
      obtain ⟨y, hy, ev⟩ := (unp_sound _).1 _ _ _ hk
      refine ⟨retV vs, ?_, y, ev, hy⟩
      have e1 : results fn a.tmps = (do let vs ← fn.results.mapM (rv1 a.tmps); pure (if h : vs.size = 1 then vs[0] else .tuple vs)) := by
        unfold results
        rfl
      rw [e1, Array.mapM_eq_mapM_toList]
      simp [hrun]
      match vs with
      | [] => simp [retV]
      | [v] => simp [retV]
      | v :: u :: vs => simp [retV]
    cases x with
    | exit id => exact hq.elim
    | normal =>
      refine ⟨.inl rfl, fun h'' hno hM => fin h'' ?_⟩
      simp only [retQ] at hq
      cases hr : noRF (codeOf fn) with
      | true => simp only [hr] at hq; rw [hno hr]; exact hq
      | false => simp only [hr] at hq; exact hq h'' hM
    | ret =>
      refine ⟨.inr rfl, fun h'' hno hM => fin h'' ?_⟩
      simp only [retQ] at hq
      cases hr : noRF (codeOf fn) with
      | true => simp only [hr] at hq; rw [hno hr]; exact hq
      | false => simp only [hr] at hq; exact hq h'' hM
theorem callsH_of_calls {f : Nat} {args : Array Value} {h : Heap} {R : Value → HP} (hc : ∀ (w : World), (callFunc f args).run P w = .ok (.enter f args) w)
    (hcalls : ∀ w : World, w.heap = h → Calls P f args w fun e w' => ∃ v, e = .returned v ∧ R v w'.heap ∧ Same w w') : CallsH P f args h R :=
  fun w hw => goes_enter (hc w) ((hcalls w hw).mono fun e w' ⟨v, e1, r, s⟩ => ⟨v, e1, s, r⟩)
theorem callsH_of_fn (hm : P.follows .mixedOrders = true) {rt : List (Nat × Ty)} {nv f : Nat} {fn : Func} {args : List Value} {τ : Ty} {K : τ.T → HP} {h : Heap} (hf : P.funcs[f]? = some fn) (hb : fn.body.isSome = true)
    (hn : Nat.ble args.length fn.ntmps = true) (hc : ∀ (a : Array Value) (w : World), (callFunc f a).run P w = .ok (.enter f a) w) (hv : fnVC P rt nv fn args τ K h) :
    CallsH P f args.toArray h fun v h' => ∃ x : τ.T, v = τ.enc x ∧ K x h' :=
  callsH_of_calls (hc _) (calls_of_fn hm hf hb hn hv)
theorem callV_func {g : Nat} {first cap args : Array Value} {h : Heap} {R : Value → HP} (hc : CallsH P g (first ++ args ++ cap) h R) : CallV P (.func (.func g) first cap) args h R := by
  intro w hw
  have : applyV (.func (.func g) first cap) args = callFunc g (first ++ args ++ cap) := by
    simp [applyV, Deferred.ofValue, invoke, bind, Sem.bind, pure]
  rw [this]
  exact hc w hw
end fn
end Go.Sx
namespace Go.Sx
open Go
def lfp {σ : Type} (b : (σ → HP) → σ → HP) (s0 : σ) : HP := fun h => ∀ X : σ → HP, (∀ s h', b X s h' → X s h') → X s0 h
def jn {σ : Type} (k : σ → HP) (b : (σ → HP) → HP) : HP := fun h => ∀ J : σ → HP, (∀ s h', k s h' → J s h') → b J h
def cj (A B : HP) : HP := fun h => A h ∧ B h
def bAnd (k : IntKind) (a b : Int) : Int := k.wrap (BitVec.ofInt k.bits a &&& BitVec.ofInt k.bits b).toNat
def bXor (k : IntKind) (a b : Int) : Int := k.wrap (BitVec.ofInt k.bits a ^^^ BitVec.ofInt k.bits b).toNat
end Go.Sx
namespace Go.Sx
open Go
def Blk (h : Heap) (b : Nat) (t : TypeId) (c : List Value) : Prop := h[b]? = some (.cells c.toArray t (0, 0))
theorem Blk.lt {h : Heap} {b : Nat} {t : TypeId} {c : List Value} (hb : Blk h b t c) : b < h.size := (Array.getElem?_eq_some_iff.1 hb).1
theorem Blk.isCells {h : Heap} {b : Nat} {t : TypeId} {c : List Value} (hb : Blk h b t c) : isCells h b := .inl ⟨_, _, _, hb⟩
theorem Blk.inj {h : Heap} {b : Nat} {t t' : TypeId} {c c' : List Value} (hb : Blk h b t c) (hb' : Blk h b t' c') : c = c' ∧ t = t' := by
  unfold Blk at hb hb'; rw [hb] at hb'; simp at hb'; exact ⟨hb'.1, hb'.2⟩
@[simp] theorem addr_add (b i n : Nat) : (⟨b, i, none⟩ : Addr).add n = ⟨b, i + n, none⟩ := by
  unfold Addr.add; split
  · rename_i h; subst h; rfl
  · rfl
theorem cell_blk {h : Heap} {b : Nat} {t : TypeId} {c : List Value} (hb : Blk h b t c) (i : Nat) : cell h ⟨b, i, none⟩ = c[i]? := by
  unfold cell; rw [hb]; simp
theorem wr_blk {h : Heap} {b : Nat} {t : TypeId} {c : List Value} (hb : Blk h b t c) {i : Nat} (hi : i < c.length) : wr h ⟨b, i, none⟩ := ⟨_, _, hb, by simpa using hi, rfl⟩
@[simp] theorem size_setC (h : Heap) (a : Addr) (v : Value) : (setC h a v).size = h.size := by simp [setC]
theorem setC_get (h : Heap) (a : Addr) (v : Value) (b : Nat) (hne : b ≠ a.block) : (setC h a v)[b]? = h[b]? := by
  simp only [setC, Array.getElem?_modify]; rw [if_neg (fun e => hne e.symm)]
theorem Blk.set {h : Heap} {b : Nat} {t : TypeId} {c : List Value} (hb : Blk h b t c) (i : Nat) (v : Value) : Blk (setC h ⟨b, i, none⟩ v) b t (c.set i v) := by
  unfold Blk Go.Sx.setC
  rw [Array.getElem?_modify]
  simp only [if_true]
  rw [show h[b]? = _ from hb]
  simp
theorem Blk.set_ne {h : Heap} {b : Nat} {t : TypeId} {c : List Value} (hb : Blk h b t c) {a : Addr} (v : Value) (hne : b ≠ a.block) : Blk (setC h a v) b t c := by
  unfold Blk; rw [setC_get _ _ _ _ hne]; exact hb
theorem Blk.push {h : Heap} {b : Nat} {t : TypeId} {c : List Value} (hb : Blk h b t c) (o : Obj) : Blk (h.push o) b t c := by
  unfold Blk; rw [Array.getElem?_push, if_neg (by have := hb.lt; omega)]; exact hb
theorem Blk.new (h : Heap) (t : TypeId) (c : Array Value) : Blk (h.push (.cells c t)) h.size t c.toList := by
  unfold Blk; rw [Array.getElem?_push]; simp
theorem Blk.ext {h h' : Heap} {b : Nat} {t : TypeId} {c : List Value} {S : List Nat} (hb : Blk h b t c) (he : Ext S h h') (hn : b ∉ S) : Blk h' b t c := by
  unfold Blk; rw [he.2 b hb.lt hn]; exact hb
theorem Ext.size {S : List Nat} {h h' : Heap} (he : Ext S h h') : h.size ≤ h'.size := he.1
theorem Ext.set {S : List Nat} {h0 h : Heap} (he : Ext S h0 h) (a : Addr) (v : Value) (hm : a.block ∈ S ∨ h0.size ≤ a.block) : Ext S h0 (setC h a v) :=
  ⟨by simpa using he.1, fun b hb hs => by
    rw [setC_get]
    · exact he.2 b hb hs
    · rintro rfl; rcases hm with h | h
      · exact hs h
      · omega⟩
theorem Ext.push {S : List Nat} {h0 h : Heap} (he : Ext S h0 h) (o : Obj) : Ext S h0 (h.push o) :=
  ⟨by have := he.1; simp; omega, fun b hb hs => by
    rw [Array.getElem?_push, if_neg (by have := he.1; omega)]; exact he.2 b hb hs⟩
theorem Ext.trans {S S' : List Nat} {h0 h h' : Heap} (he : Ext S h0 h) (he' : Ext S' h h') (hm : ∀ b ∈ S', b ∈ S ∨ h0.size ≤ b) : Ext S h0 h' :=
  ⟨Nat.le_trans he.1 he'.1, fun b hb hs => by
    rw [he'.2 b (Nat.lt_of_lt_of_le hb he.1) (fun hin => (hm b hin).elim hs (fun h => by omega))]
    exact he.2 b hb hs⟩
theorem Ext.mono {S S' : List Nat} {h h' : Heap} (he : Ext S h h') (hm : ∀ b ∈ S, b < h.size → b ∈ S') : Ext S' h h' :=
  ⟨he.1, fun b hb hs => he.2 b hb (fun hin => hs (hm b hin hb))⟩
theorem Ext.nil_trans {h0 h h' : Heap} {S : List Nat} (he : Ext S h0 h) (he' : Ext [] h h') : Ext S h0 h' := he.trans he' (fun _ h => by cases h)
theorem Ext.marked {S : List Nat} {h0 h h' : Heap} (he : Ext S h0 h) (hm : Marked h0.size h h') : Ext S h0 h' :=
  ⟨by rw [hm.1]; exact he.1, fun b hb hs => by rw [hm.2 b (.inl hb)]; exact he.2 b hb hs⟩
theorem Blk.marked {n : Nat} {h h' : Heap} {b : Nat} {t : TypeId} {c : List Value} (hb : Blk h b t c) (hm : Marked n h h') : Blk h' b t c := by
  unfold Blk; rw [hm.2 b (.inr fun ds e => by rw [show h[b]? = _ from hb] at e; cases e)]; exact hb
theorem Ext.off {S B : List Nat} {n : Nat} {h0 h h' : Heap} (he : Ext S h0 h) (ho : OffL n B h h') (hn : h0.size ≤ n) : Ext S h0 h' := by
  obtain ⟨hs, l, hl, _, _, _, hk⟩ := ho
  exact ⟨by rw [hs]; exact he.1, fun b hb hS => by rw [hk b (by omega)]; exact he.2 b hb hS⟩
theorem Blk.off {B : List Nat} {n : Nat} {h h' : Heap} {b : Nat} {t : TypeId} {c : List Value} (hb : Blk h b t c) (ho : OffL n B h h') : Blk h' b t c := by
  obtain ⟨hs, l, hl, _, hc, _, hk⟩ := ho
  unfold Blk
  rw [hk b (fun e => hc (e ▸ hb.isCells))]; exact hb
section words
variable {h : Heap} {b i : Nat} {t : TypeId} {c : List Value}
theorem ld_int {k : IntKind} {K : Int → HP} {n : Int} (hb : Blk h b t c) (hi : c[i]? = some (.int k n)) : ldT (.int k) ⟨b, i, none⟩ K h = K n h := by
  refine propext ⟨fun ⟨x, hx, hk⟩ => ?_, fun hk => ⟨n, by rw [cell_blk hb, hi]; rfl, hk⟩⟩
  rw [cell_blk hb, hi] at hx
  have e : Value.int k n = .int k x := by simpa [Ty.enc, Ty.ev] using hx
  cases e; exact hk
theorem ld_bool {K : Bool → HP} {n : Bool} (hb : Blk h b t c) (hi : c[i]? = some (.bool n)) : ldT .bool ⟨b, i, none⟩ K h = K n h := by
  refine propext ⟨fun ⟨x, hx, hk⟩ => ?_, fun hk => ⟨n, by rw [cell_blk hb, hi]; rfl, hk⟩⟩
  rw [cell_blk hb, hi] at hx
  have e : Value.bool n = .bool x := by simpa [Ty.enc, Ty.ev] using hx
  cases e; exact hk
theorem ld_sl {K : Sl → HP} {a : Option Addr} {l cp : Nat} (hb : Blk h b t c) (hi : c[i]? = some (.slice a l cp)) : ldT .sl ⟨b, i, none⟩ K h = K ⟨a, l, cp⟩ h := by
  refine propext ⟨fun ⟨x, hx, hk⟩ => ?_, fun hk => ⟨⟨a, l, cp⟩, by rw [cell_blk hb, hi]; rfl, hk⟩⟩
  rw [cell_blk hb, hi] at hx
  have e : Value.slice a l cp = .slice x.a x.len x.cap := by simpa [Ty.enc, Ty.ev] using hx
  cases e; exact hk
theorem ld_val {K : Value → HP} {v : Value} (hb : Blk h b t c) (hi : c[i]? = some v) : ldT .val ⟨b, i, none⟩ K h = K v h := by
  refine propext ⟨fun ⟨x, hx, hk⟩ => ?_, fun hk => ⟨v, by rw [cell_blk hb, hi]; rfl, hk⟩⟩
  rw [cell_blk hb, hi] at hx
  have e : v = x := by simpa [Ty.enc, Ty.ev] using hx
  subst e; exact hk
theorem nn_some {a : Addr} {K : Addr → HP} : nn (some a) K h = K a h := rfl
theorem brB_true {A B : HP} : brB true A B h = A h := rfl
theorem brB_false {A B : HP} : brB false A B h = B h := rfl
theorem sx_ok {a : Addr} {len : Nat} {j : Int} {sz : Nat} {K : Addr → HP} (h0 : 0 ≤ j) (h1 : j < len) : sx (some a) len j sz K h = K (a.add (j.toNat * sz)) h :=
  propext ⟨fun ⟨a', e, _, _, k⟩ => by cases e; exact k, fun k => ⟨a, rfl, h0, h1, k⟩⟩
theorem st_ok {v : Value} {K : HP} (hb : Blk h b t c) (hi : i < c.length) : st1 ⟨b, i, none⟩ v K h = K (setC h ⟨b, i, none⟩ v) :=
  propext ⟨fun k => k.2, fun k => ⟨wr_blk hb hi, k⟩⟩
theorem ck_ok {v : Value} {K : HP} (hb : Blk h b t c) (hi : c[i]? = some v) : ck ⟨b, i, none⟩ v K h = K h :=
  propext ⟨fun k => k.2, fun k => ⟨by rw [cell_blk hb, hi], k⟩⟩
theorem ge0_ok {y : Int} {K : HP} (hy : 0 ≤ y) : ge0 y K h = K h := propext ⟨fun k => k.2, fun k => ⟨hy, k⟩⟩
theorem nz_ok {y : Int} {K : HP} (hy : y ≠ 0) : nz y K h = K h := propext ⟨fun k => k.2, fun k => ⟨hy, k⟩⟩
theorem nw_eq {cs : Array Value} {K : Nat → HP} : nw cs t K h = K h.size (h.push (.cells cs t)) := rfl
theorem call_of {P : Program} {f : FuncId} {args : Array Value} {τ : Ty} {R K : τ.T → HP} (hc : callT P f args τ R h) (hk : ∀ x h', R x h' → K x h') : callT P f args τ K h :=
  CallsH.mono hc fun v h' ⟨x, e, r⟩ => ⟨x, e, hk x h' r⟩
theorem callF_of {P : Program} {fv : Value} {args : Array Value} {τ : Ty} {R K : τ.T → HP} (hc : callF P fv args τ R h) (hk : ∀ x h', R x h' → K x h') : callF P fv args τ K h :=
  CallV.mono hc fun v h' ⟨x, e, r⟩ => ⟨x, e, hk x h' r⟩
theorem callF_func {P : Program} {g : FuncId} {first cap args : Array Value} {τ : Ty} {K : τ.T → HP} (hc : callT P g (first ++ args ++ cap) τ K h) : callF P (.func (.func g) first cap) args τ K h :=
  callV_func hc
theorem lfp_invh {σ : Type} {B : (σ → HP) → σ → HP} {s0 : σ} (I : Nat → σ → HP) (h0 : ∃ n, I n s0 h)
    (step : ∀ n s h' (X : σ → HP), I n s h' → (∀ m s2 h2, I m s2 h2 → m < n → X s2 h2) → B X s h') : lfp B s0 h := by
  intro X hX
  have key : ∀ n s h', I n s h' → X s h' := by
    intro n
    induction n using Nat.strongRecOn with
    | _ n ih =>
      intro s h' hi
      exact hX s h' (step n s h' X hi fun m s2 h2 hi2 hlt => ih m hlt s2 h2 hi2)
  obtain ⟨n, hn⟩ := h0
  exact key n _ _ hn
theorem jn_mid {σ : Type} {k : σ → HP} {B : (σ → HP) → HP} (M : σ → HP) (hk : ∀ s h', M s h' → k s h') (hb : ∀ J : σ → HP, (∀ s h', M s h' → J s h') → B J h) : jn k B h :=
  fun J hJ => hb J fun s h' hm => hJ s h' (hk s h' hm)
theorem jn_in {σ : Type} {k : σ → HP} {B : (σ → HP) → HP} (hb : ∀ J : σ → HP, (∀ s h', k s h' → J s h') → B J h) : jn k B h := hb
end words
theorem wrap_i64 {x : Int} (h0 : -9223372036854775808 ≤ x) (h1 : x ≤ 9223372036854775807) : IntKind.wrap .i64 x = x := by
  have e : IntKind.wrap .i64 x = (if x % 18446744073709551616 ≥ 9223372036854775808 then x % 18446744073709551616 - 18446744073709551616 else x % 18446744073709551616) := by
    simp [IntKind.wrap, IntKind.bits, IntKind.signed]
  rw [e]
  split <;> omega
end Go.Sx
