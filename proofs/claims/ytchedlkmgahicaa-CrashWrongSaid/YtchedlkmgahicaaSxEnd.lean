/-
  From a walk to a given statement of the kind 'it returns true, and the arguments read as they did'. Nothing here names a program.
-/
import Derived.Test.YtchedlkmgahicaaSxT
import Derived.WideKeyArgs
import Derived.OpenShut
import Derived.ChangeSlices
import Derived.Handed
import Derived.ProofKit
set_option linter.unusedVariables false
namespace Go.Sx
open Go Go.ChangeShapes Go.WideShapes Go.ChangeAt Go.RowKit

section
variable {H : Type} {enc : TypeId × Value → H} {P : Program}

theorem trodAll_stays (hl : laidOutB P = true) {W W' : World} {sp' : Nat → Bool} : ∀ {ts : List TypeId} {vs : List Value} {ds : List (DataW H)} {ps : List MemPlace}, (∀ t ∈ ts, P.readableRec t = true ∧ t < P.types.size) →
    DataW.TrodAll enc P W 0 (fun _ => true) true ts vs ds ps → (∀ p ∈ ps, W.sameAt W' p) → (∀ p ∈ ps, sp' p.block = true) → DataW.TrodAll enc P W' 0 sp' true ts vs ds ps
  | [], vs, ds, ps, _, h, _, _ => by
    obtain ⟨rfl, rfl, rfl⟩ := trodAll_nil h
    exact trodAll_mk0
  | t :: ts, vs, ds, ps, ht, h, hs, hsp => by
    obtain ⟨v, vs', d, ds', p, q, rfl, rfl, rfl, hd, hrest⟩ := trodAll_cons h
    exact Go.trodAll_cons_mk (WideElems.Trod_stays hl (ht t (by simp)).1 (ht t (by simp)).2 hd (fun x hx => hs x (List.mem_append_left _ hx)) (fun x hx => hsp x (List.mem_append_left _ hx)))
      (trodAll_stays hl (fun u hu => ht u (by simp [hu])) hrest (fun x hx => hs x (List.mem_append_right _ hx)) (fun x hx => hsp x (List.mem_append_right _ hx)))

theorem below_of {W W' : World} (s : Same W W') (x : Ext [] W.heap W'.heap) : Below W.heap.size W W' :=
  ⟨s.os, s.tape, s.output, s.size, fun k hk => x.2 k hk (by simp)⟩

theorem lift_true {C : Checked} {os : Os} {f : FuncId} {fn : Func} {s : ChangeSpec} {conds : List PathCond} {tb : TypeId}
    (own : ownKnob C.prog.godebug = none) (started : os.Started) (noInit : C.prog.inits.idxOf? f = none) (hfn : C.prog.funcs[f]? = some fn)
    (witness : ∃ (w : World) (tape : Tape) (i : Input), w.os = os ∧ (w.forCall tape i).Shaped C.prog ∧ i.vars = [] ∧ Input.okWide C.prog (w.forCall tape i) .any w.heap.size f i ∧
      s.pre6 enc C.prog fn conds false (w.forCall tape i).memory i.args ∧ ({} : Assume).holds C.prog (lone (Frame.enter C.prog f i.args .normal) [] (w.forCall tape i)))
    (hl : laidOutB C.prog = true) (hread : ∀ t ∈ fn.params.toList, C.prog.readableRec t = true ∧ t < C.prog.types.size)
    (hres : fn.resultTypes.toList = [tb]) (hres1 : fn.resultTypes.size = 1) (htb : C.prog.underlying tb = some .bool) (hvars : s.vars = [])
    (hs : ∀ ds : List (DataW H), ds.length = fn.params.toList.length → (s.fn H (ds ++ [])).results = [.lit (.bool true)] ∧ (s.fn H (ds ++ [])).args = ds ∧ (s.fn H (ds ++ [])).vars = [])
    (call : ∀ (W : World) (base : Nat) (args : Array Value) (ds : List (DataW H)) (p : List MemPlace),
      (∀ (j : Nat) t v, fn.params[j]? = some t → args[j]? = some v → Value.okWide C.prog W .any base t v) →
      DataW.TrodAll enc C.prog W 0 (fun _ => true) true fn.params.toList args.toList ds p → (∀ x ∈ p, x.block < W.heap.size) →
      Calls C.prog f args W fun e W' => e = .returned (.bool true) ∧ Below W.heap.size W W') :
    ReturnsInHanded {} C os f .any (s.pre6 enc C.prog fn conds false) (s.post enc C.prog fn false true false false) := by
  refine returnsInHanded_of_change own started noInit hfn witness ?_
  intro W base args ds gs before hval hW hcnd _
  have hW' := hW
  obtain ⟨p, q, hA, hV, rfl, hfz, hnd⟩ := hW
  rw [hvars] at hV
  obtain ⟨rfl, rfl⟩ := trodVars_none hV
  have hA' : DataW.TrodAll enc C.prog W 0 (fun _ => true) true fn.params.toList args.toList ds p := hA
  have hlt : ∀ x ∈ p, x.block < W.heap.size := fun x hx => hW'.lt x (by simp [hx])
  have hlen : ∀ {ts : List TypeId} {vs : List Value} {ds : List (DataW H)} {ps : List MemPlace}, DataW.TrodAll enc C.prog W 0 (fun _ => true) true ts vs ds ps → ds.length = ts.length := by
    intro ts
    induction ts with
    | nil => intro vs ds ps h; obtain ⟨_, rfl, _⟩ := trodAll_nil h; rfl
    | cons t ts ih =>
      intro vs ds ps h
      obtain ⟨v, vs', d, ds', p, q, rfl, rfl, rfl, hd, hrest⟩ := trodAll_cons h
      simp [ih hrest]
  obtain ⟨h1, h2, h3⟩ := hs ds (hlen hA')
  refine (call W base args ds p hval hA' hlt).mono fun e W' ⟨he, hb⟩ => ?_
  subst he
  refine ⟨_, rfl, ⟨ds, [], p ++ [], [], p, [], hW', ?_, ?_, ?_, hb.frame _, fun h => by cases h⟩⟩
  · rw [h1, hres, hres1]
    exact trodAll_mk1 (shut_bool htb true)
  · rw [h2]
    exact trodAll_stays hl hread hA' (fun x hx => hb.same (hlt x hx)) fun x hx => by simpa using hlt x hx
  · rw [h3, hvars]; rfl

theorem wf_u8 {x : Int} (h : (Lit.int .u8 x).wf = true) : 0 ≤ x ∧ x < 256 := by
  have : 0 ≤ x ∧ x ≤ 255 := by simpa [Lit.wf, IntKind.min, IntKind.max, IntKind.signed, IntKind.bits] using h
  omega
end
end Go.Sx

set_option linter.unusedVariables false
set_option linter.unusedSimpArgs false
namespace Go.Sx
open Go Go.ChangeShapes Go.WideShapes Go.ChangeAt Go.RowKit
section
variable {P : Program} {rt : List (Nat × Ty)} {nv N n0 : Nat} {Q : Ex → Env → HP} {e : Env} {h : Heap}

def CP (P : Program) (N n0 : Nat) (c : Code) (Q : Ex → Env → HP) (e : Env) (h : Heap) : Prop :=
  ∀ (a : Act) (w : World), w.heap = h → Fits N e a.tmps → CW P n0 none c (liftQ N Q) a w
theorem CP.of {c : Code} (hm : P.follows .mixedOrders = true) (hv : vc P rt nv N c Q e h) : CP P N n0 c Q e h := fun a w hw hf => vc_sound hm c n0 none Q e h hv a w hw hf
theorem CP.seq {a b : Code} (hm : P.follows .mixedOrders = true) (keys : List Nat) (τ : Ty) (X : τ.T → HP) (ha : vc P rt nv N a (thenE (meet τ keys X) Q) e h)
    (hb : ∀ x h', X x h' → CP P N n0 b Q (keys.zip (τ.vals x)) h') : CP P N n0 (.seq a b) Q e h := by
  intro ac w hw hf
  refine cw_seq ((vc_sound hm a n0 none _ e h ha ac w hw hf).mono ?_)
  rintro z a' w' ⟨e', hf', hq⟩
  cases z with
  | normal =>
    have hq : meet τ keys X e' w'.heap := hq
    unfold meet at hq
    split at hq
    · rename_i vs hvs
      obtain ⟨x, hX, ev⟩ := (unp_sound _).2 _ _ _ hq
      exact hb x _ hX a' w' rfl ⟨hf'.1, fun t v ht => by rw [← ev] at ht; exact hf'.2 t v (getL_find _ _ _ hvs t v ht)⟩
    · exact hq.elim
  | exit id => exact ⟨e', hf', hq⟩
  | ret => exact ⟨e', hf', hq⟩
def takeC : Nat → Code → Code
  | 0, c => c
  | 1, .seq a _ => a
  | k + 2, .seq a b => .seq a (takeC (k + 1) b)
  | _, c => c
def dropC : Nat → Code → Code
  | k + 1, .seq _ b => dropC k b
  | _, c => c
def hasC : Nat → Code → Bool
  | 0, _ => true
  | k + 1, .seq _ b => hasC k b
  | _, _ => false
theorem CP.cut (hm : P.follows .mixedOrders = true) (keys : List Nat) (τ : Ty) (X : τ.T → HP) : ∀ (k : Nat) (c : Code) (e : Env) (h : Heap), hasC (k + 1) c = true → vc P rt nv N (takeC (k + 1) c) (thenE (meet τ keys X) Q) e h →
    (∀ x h', X x h' → CP P N n0 (dropC (k + 1) c) Q (keys.zip (τ.vals x)) h') → CP P N n0 c Q e h
  | 0, .seq a b, e, h, _, hv, hb => CP.seq hm keys τ X hv hb
  | k + 1, .seq a b, e, h, hc, hv, hb => by
    intro ac w hw hf
    have hv : vc P rt nv N a (thenE (vc P rt nv N (takeC (k + 1) b) (thenE (meet τ keys X) Q)) (thenE (meet τ keys X) Q)) e h := hv
    refine cw_seq ((vc_sound hm a n0 none _ e h hv ac w hw hf).mono ?_)
    rintro z a' w' ⟨e', hf', hq⟩
    cases z with
    | normal => exact CP.cut hm keys τ X k b e' _ hc hq hb a' w' rfl hf'
    | exit id => exact ⟨e', hf', hq⟩
    | ret => exact ⟨e', hf', hq⟩
def meetB (a : Nat) (τ : Ty) (keys : List Nat) (X : Nat → τ.T → HP) (e : Env) (h : Heap) : Prop :=
  match e.find a with
  | some (.pointer (some ⟨b, 0, none⟩)) => meet τ keys (X b) e h
  | _ => False
theorem CP.cutB (hm : P.follows .mixedOrders = true) (ka : Nat) (keys : List Nat) (τ : Ty) (X : Nat → τ.T → HP) : ∀ (k : Nat) (c : Code) (e : Env) (h : Heap), hasC (k + 1) c = true → vc P rt nv N (takeC (k + 1) c) (thenE (meetB ka τ keys X) Q) e h →
    (∀ b x h', X b x h' → CP P N n0 (dropC (k + 1) c) Q ((ka, .pointer (some ⟨b, 0, none⟩)) :: keys.zip (τ.vals x)) h') → CP P N n0 c Q e h
  | 0, .seq a b, e, h, _, hv, hb => by
    intro ac w hw hf
    refine cw_seq ((vc_sound hm a n0 none _ e h hv ac w hw hf).mono ?_)
    rintro z a' w' ⟨e', hf', hq⟩
    cases z with
    | normal =>
      have hq : meetB ka τ keys X e' w'.heap := hq
      unfold meetB at hq
      split at hq
      · rename_i b0 hb0
        unfold meet at hq
        split at hq
        · rename_i vs hvs
          obtain ⟨x, hX, ev⟩ := (unp_sound _).2 _ _ _ hq
          refine hb b0 x _ hX a' w' rfl ⟨hf'.1, fun t v ht => ?_⟩
          have ht : (bif Nat.beq ka t then some (Value.pointer (some ⟨b0, 0, none⟩)) else Env.find (keys.zip (τ.vals x)) t) = some v := ht
          cases hk : Nat.beq ka t with
          | true =>
            rw [hk] at ht
            have ek := Nat.eq_of_beq_eq_true hk
            subst ek
            have ht : some (Value.pointer (some ⟨b0, 0, none⟩)) = some v := ht
            cases ht
            exact hf'.2 _ _ hb0
          | false =>
            rw [hk] at ht
            have ht : Env.find (keys.zip (τ.vals x)) t = some v := ht
            rw [← ev] at ht
            exact hf'.2 t v (getL_find _ _ _ hvs t v ht)
        · exact hq.elim
      · exact hq.elim
    | exit id => exact ⟨e', hf', hq⟩
    | ret => exact ⟨e', hf', hq⟩
  | k + 1, .seq a b, e, h, hc, hv, hb => by
    intro ac w hw hf
    have hv : vc P rt nv N a (thenE (vc P rt nv N (takeC (k + 1) b) (thenE (meetB ka τ keys X) Q)) (thenE (meetB ka τ keys X) Q)) e h := hv
    refine cw_seq ((vc_sound hm a n0 none _ e h hv ac w hw hf).mono ?_)
    rintro z a' w' ⟨e', hf', hq⟩
    cases z with
    | normal => exact CP.cutB hm ka keys τ X k b e' _ hc hq hb a' w' rfl hf'
    | exit id => exact ⟨e', hf', hq⟩
    | ret => exact ⟨e', hf', hq⟩
theorem CP.scope {c : Code} (hc : CP P N n0 c Q e h) : CP P N n0 (.scope c) Q e h := fun a w hw hf => cw_scope (hc a w hw hf)

theorem calls_of_cp {f : Nat} {fn : Func} {args : List Value} {τ : Ty} {K : τ.T → HP} {h : Heap} (hf : P.funcs[f]? = some fn) (hb : fn.body.isSome = true)
    (hn : Nat.ble args.length fn.ntmps = true) (hv : CP P fn.ntmps h.size (codeOf fn) (retQ P fn τ K h.size) (argE 0 args) h) (w : World) (hw : w.heap = h) :
    Calls P f args.toArray w fun e w' => ∃ v, e = .returned v ∧ (∃ x, v = τ.enc x ∧ K x w'.heap) ∧ Same w w' := by
  subst hw
  have hbody : fn.body = some (codeOf fn) := by
    unfold codeOf
    cases hbb : fn.body with
    | none => rw [hbb] at hb; cases hb
    | some c => rfl
  have hn' : args.length ≤ fn.ntmps := by simpa using hn
  refine calls_of_cw hf hbody ((hv { tmps := args.toArray ++ Array.replicate (fn.ntmps - args.toArray.size) undef, defers := [] } w rfl ?_).mono ?_)
  · refine ⟨by simp; omega, fun t v ht => ?_⟩
    obtain ⟨_, h2⟩ := argE_find args 0 t v ht
    have hlt : t < args.length := by
      rcases Nat.lt_or_ge t args.length with h' | h'
      · exact h'
      · rw [List.getElem?_eq_none (by simpa using h')] at h2; cases h2
    rw [Array.getElem?_append_left (by simpa using hlt)]
    simpa using h2
  · rintro x a w' ⟨e, hfe, hq⟩
    have fin : ∀ h'', resL P fn.results.toList e (fun vs => (unp τ).1 (retV vs) K) h'' → ∃ v, (results fn a.tmps).run P { w' with heap := h'' } = .ok v { w' with heap := h'' } ∧ ∃ y : τ.T, v = τ.enc y ∧ K y h'' := by
      intro h'' hr
      obtain ⟨vs, hk, hl, hrun⟩ := resL_ok hfe _ _ { w' with heap := h'' } hr
      obtain ⟨y, hy, ev⟩ := (unp_sound _).1 _ _ _ hk
      refine ⟨retV vs, ?_, y, ev, hy⟩
      have e1 : results fn a.tmps = (do let vs ← fn.results.mapM (rv1 a.tmps); pure (if h : vs.size = 1 then vs[0] else .tuple vs)) := by
        unfold results
        rfl
      rw [e1, Array.mapM_eq_mapM_toList]
      simp [hrun]
      match vs with
      | [] => simp [retV]
      | [v] => simp [retV]
      | v :: u :: vs => simp [retV]
    cases x with
    | exit id => exact hq.elim
    | normal =>
      refine ⟨.inl rfl, fun h'' hno hM => fin h'' ?_⟩
      simp only [retQ] at hq
      cases hr : noRF (codeOf fn) with
      | true => simp only [hr] at hq; rw [hno hr]; exact hq
      | false => simp only [hr] at hq; exact hq h'' hM
    | ret =>
      refine ⟨.inr rfl, fun h'' hno hM => fin h'' ?_⟩
      simp only [retQ] at hq
      cases hr : noRF (codeOf fn) with
      | true => simp only [hr] at hq; rw [hno hr]; exact hq
      | false => simp only [hr] at hq; exact hq h'' hM
theorem calls_true_cp {f : Nat} {fn : Func} {args : List Value} (hf : P.funcs[f]? = some fn) (hb : fn.body.isSome = true)
    (hn : Nat.ble args.length fn.ntmps = true) (W : World) (hv : CP P fn.ntmps W.heap.size (codeOf fn) (retQ P fn .bool (fun x h' => x = true ∧ Ext [] W.heap h') W.heap.size) (argE 0 args) W.heap) :
    Calls P f args.toArray W fun e W' => e = .returned (.bool true) ∧ Below W.heap.size W W' :=
  (calls_of_cp (τ := .bool) hf hb hn hv W rfl).mono fun e W' ⟨v, he, ⟨x, hx, ht, xx⟩, sm⟩ => ⟨by rw [he, hx, ht]; rfl, below_of sm xx⟩

end
end Go.Sx
