/-
  A region in whatever order its edges allow: what only reads is carried out first. Nothing here names a program.
-/
import Derived.Test.YtchedlkmgahicaaSx7
set_option linter.unusedVariables false
set_option linter.unusedSimpArgs false
namespace Go.Sx
open Go

def maskOf (acc : List Nat) (o : Oper) : Nat := (preds o).foldl (fun s p => s ||| (1 <<< p) ||| acc.getD p 0) 0
def masks : List Oper → List Nat → List Nat
  | [], acc => acc
  | o :: r, acc => masks r (acc ++ [maskOf acc o])

def readsOf (ops : Array Oper) (o : Oper) : List Nat :=
  (o.op.operands.toList.filterMap fun | .tmp t => some t | _ => none) ++ (match o.guard with | some (j, _) => ((ops[j]?).bind (·.dst)).toList | none => [])

def pairOk (ops : Array Oper) (bs : List Nat) (i q : Nat) (o oq : Oper) : Bool :=
  Nat.beq i q || (match oq.dst with
    | none => true
    | some t => (match o.dst with | some t' => !Nat.beq t t' | none => true) &&
        (!(memN (readsOf ops o) t) || Nat.testBit (bs.getD i 0) q || (!isQuiet oq && Nat.testBit (bs.getD q 0) i)))

def regOk (ops : Array Oper) (bs : List Nat) : Bool :=
  (List.range ops.size).all fun i =>
    match ops[i]? with
    | none => false
    | some o => (preds o).all (Nat.blt · i) && (match o.dst with | some t => !isQuiet o || !memN (readsOf ops o) t | none => !isQuiet o) && (List.range ops.size).all fun q => match ops[q]? with | none => false | some oq => pairOk ops bs i q o oq

def readyB (ops : Array Oper) (done : List Nat) (i : Nat) : Bool :=
  match ops[i]? with
  | none => false
  | some o => !(memN done i) && (preds o).all (memN done)

def quietAt (ops : Array Oper) (i : Nat) : Bool := match ops[i]? with | some o => isQuiet o | none => false

def scanQ (ops : Array Oper) (done : List Nat) : List Nat → Option Nat
  | [] => none
  | i :: r => match readyB ops done i && quietAt ops i with | true => some i | false => scanQ ops done r

def ck (a : Addr) (v : Value) (K : HP) : HP := fun h => cell h a = some v ∧ K h
def ckA (a : Addr) (vs : List Value) (K : HP) : HP := fun h => CellsAt h a 0 vs ∧ K h

def ranB (ops : Array Oper) (e : Env) (o : Oper) : Bool :=
  match o.guard with
  | none => true
  | some (j, want) =>
    match (ops[j]?).bind (·.dst) with
    | some d => (match e.find d with | some (.bool b) => (match want with | true => b | false => !b) | _ => false)
    | none => false

def rcOne (P : Program) (ops : Array Oper) (e : Env) (q : Nat) (K : HP) (h : Heap) : Prop :=
  match ops[q]? with
  | none => False
  | some oq =>
    match oq.op with
    | .load t x =>
      (match ranB ops e oq with
       | false => K h
       | true =>
        (match oq.dst with
         | none => K h
         | some d =>
           (match e.ev x, P.underlying t, e.find d with
            | .pointer (some a), some td, some v =>
              (match isAggD td with
               | true => (match v with | .agg cs => ckA a cs.toList K h | _ => False)
               | false => ck a v K h)
            | _, _, _ => False)))
    | _ => K h

def rcs (P : Program) (ops : Array Oper) (e : Env) : List Nat → HP → HP
  | [], K => K
  | q :: r, K => rcOne P ops e q (rcs P ops e r K)

def conjVC (f : Nat → HP) : Nat → List Nat → HP
  | i, [] => f i
  | i, j :: r => fun h => f i h ∧ conjVC f j r h

def loudRun (P : Program) (ops : Array Oper) (o : Oper) (cks : List Nat) (K : Env → HP) (e : Env) (h : Heap) : Prop :=
  match hasAll e o with
  | true => opVC P e o (fun v => rcs P ops e cks (K (e.put o.dst v))) h
  | false => False

def loudVC (P : Program) (ops : Array Oper) (N : Nat) (bs : List Nat) (done : List Nat) (j : Nat) (K : Env → HP) (e : Env) (h : Heap) : Prop :=
  match ops[j]? with
  | none => False
  | some o =>
    match notDefer o && dstOk N o with
    | true => guardVC ops e o (loudRun P ops o (match needsCk o with | true => done.filter (fun q => !Nat.testBit (bs.getD j 0) q) | false => []) K) (fun e1 => K (e1.put o.dst undef)) h
    | false => False

def expVC (P : Program) (ops : Array Oper) (N : Nat) (bs : List Nat) : Nat → List Nat → (Env → HP) → Env → HP
  | 0, _, _ => fun _ _ => False
  | n + 1, done, K => fun e h =>
    match scanQ ops done (List.range ops.size) with
    | some i => stepVC P ops N i (expVC P ops N bs n (i :: done) K) e h
    | none =>
      match (List.range ops.size).filter (readyB ops done) with
      | [] => (match (List.range ops.size).all (memN done) with | true => K e h | false => False)
      | i :: is => conjVC (fun j => loudVC P ops N bs done j (expVC P ops N bs n (j :: done) K) e) i is h

theorem testBit_fold (acc : List Nat) (q : Nat) : ∀ (l : List Nat) (s : Nat), Nat.testBit (l.foldl (fun s p => s ||| (1 <<< p) ||| acc.getD p 0) s) q = true →
    Nat.testBit s q = true ∨ ∃ p ∈ l, p = q ∨ Nat.testBit (acc.getD p 0) q = true
  | [], s, h => .inl h
  | p :: l, s, h => by
    rcases testBit_fold acc q l _ h with h | ⟨p', hp, h⟩
    · simp only [Nat.testBit_or, Bool.or_eq_true, Nat.testBit_shiftLeft] at h
      rcases h with (h | h) | h
      · exact .inl h
      · refine .inr ⟨p, by simp, .inl ?_⟩
        simp only [Bool.and_eq_true, decide_eq_true_eq] at h
        have h2 := h.2
        rcases Nat.eq_zero_or_pos (q - p) with h0 | h0
        · omega
        · have : Nat.testBit 1 (q - p) = false := by
            cases hq : q - p with
            | zero => omega
            | succ k => simp [Nat.testBit_succ]
          rw [this] at h2; cases h2
      · exact .inr ⟨p, by simp, .inr h⟩
    · exact .inr ⟨p', by simp [hp], h⟩

theorem masks_spec : ∀ (l : List Oper) (acc : List Nat), ∃ r, masks l acc = acc ++ r ∧ r.length = l.length ∧
    ∀ k o, l[k]? = some o → r[k]? = some (maskOf (acc ++ r.take k) o)
  | [], acc => ⟨[], by simp [masks], rfl, fun k o h => by simp at h⟩
  | o :: l, acc => by
    obtain ⟨r, h1, h2, h3⟩ := masks_spec l (acc ++ [maskOf acc o])
    refine ⟨maskOf acc o :: r, by simp [masks, h1], by simp [h2], fun k o' hk => ?_⟩
    cases k with
    | zero => simp at hk; subst hk; simp
    | succ k =>
      simp at hk
      have := h3 k o' hk
      simp [this]

section exp
variable {P : Program} {ops : Array Oper} {N : Nat}

def bsOf (ops : Array Oper) : List Nat := masks ops.toList []

theorem bs_get {i : Nat} {o : Oper} (ho : ops[i]? = some o) : (bsOf ops).getD i 0 = maskOf ((bsOf ops).take i) o := by
  obtain ⟨r, h1, h2, h3⟩ := masks_spec ops.toList []
  have e : bsOf ops = r := by simpa [bsOf] using h1
  rw [e, List.getD_eq_getElem?_getD, h3 i o (by simpa using ho)]
  simp

theorem bit_in {L : Nat → Prop} {i : Nat} {o : Oper} (hlow : ∀ i o, ops[i]? = some o → ∀ p ∈ preds o, p < i) (hL : ∀ i, L i → ∀ o, ops[i]? = some o → ∀ p ∈ preds o, L p)
    (ho : ops[i]? = some o) (hp : ∀ p ∈ preds o, L p) {q : Nat} (hb : Nat.testBit ((bsOf ops).getD i 0) q = true) : L q := by
  revert o
  induction i using Nat.strongRecOn with
  | _ i ih =>
    intro o ho hp
    rw [bs_get ho] at hb
    rcases testBit_fold _ q _ _ hb with h | ⟨p, hpm, h⟩
    · simp at h
    · rcases h with rfl | h
      · exact hp p hpm
      · have hpi := hlow i o ho p hpm
        have e : ((bsOf ops).take i).getD p 0 = (bsOf ops).getD p 0 := by
          simp [List.getD_eq_getElem?_getD, List.getElem?_take, hpi]
        rw [e] at h
        have hlt : i < ops.size := (Array.getElem?_eq_some_iff.1 ho).1
        obtain ⟨o', ho'⟩ : ∃ o', ops[p]? = some o' := ⟨ops[p]'(by omega), by simp [show p < ops.size by omega]⟩
        exact ih p hpi h ho' (hL p (hp p hpm) o' ho')

theorem regOk_low (h : regOk ops (bsOf ops) = true) (i : Nat) (o : Oper) (ho : ops[i]? = some o) : ∀ p ∈ preds o, p < i := by
  have hlt : i < ops.size := (Array.getElem?_eq_some_iff.1 ho).1
  have := List.all_eq_true.1 h i (by simp [hlt])
  rw [ho] at this
  simp only [Bool.and_eq_true] at this
  intro p hp
  have := List.all_eq_true.1 this.1.1 p hp
  simpa [Nat.blt_eq] using this

theorem regOk_own (h : regOk ops (bsOf ops) = true) {i : Nat} {o : Oper} (ho : ops[i]? = some o) (hq : isQuiet o = true) {t : Nat} (ht : o.dst = some t) : t ∉ readsOf ops o := by
  have hlt : i < ops.size := (Array.getElem?_eq_some_iff.1 ho).1
  have := List.all_eq_true.1 h i (by simp [hlt])
  rw [ho] at this
  simp only [Bool.and_eq_true, ht, hq, Bool.not_true, Bool.false_or, Bool.not_eq_true'] at this
  intro hm
  rw [(memN_iff _ _).2 hm] at this
  exact absurd this.1.2 (by simp)

theorem regOk_dst (h : regOk ops (bsOf ops) = true) {i : Nat} {o : Oper} (ho : ops[i]? = some o) (hq : isQuiet o = true) : o.dst ≠ none := by
  have hlt : i < ops.size := (Array.getElem?_eq_some_iff.1 ho).1
  have := List.all_eq_true.1 h i (by simp [hlt])
  rw [ho] at this
  intro hn
  simp [hn, hq] at this

theorem regOk_pair (h : regOk ops (bsOf ops) = true) {i q : Nat} {o oq : Oper} (ho : ops[i]? = some o) (hq : ops[q]? = some oq) (hne : i ≠ q) {t : Nat} (ht : oq.dst = some t) :
    o.dst ≠ some t ∧ (t ∈ readsOf ops o → Nat.testBit ((bsOf ops).getD i 0) q = true ∨ (isQuiet oq = false ∧ Nat.testBit ((bsOf ops).getD q 0) i = true)) := by
  have hlt : i < ops.size := (Array.getElem?_eq_some_iff.1 ho).1
  have hlq : q < ops.size := (Array.getElem?_eq_some_iff.1 hq).1
  have h1 := List.all_eq_true.1 h i (by simp [hlt])
  rw [ho] at h1
  simp only [Bool.and_eq_true] at h1
  have h2 := List.all_eq_true.1 h1.2 q (by simp [hlq])
  rw [hq] at h2
  have hb : Nat.beq i q = false := by
    cases hh : Nat.beq i q with
    | false => rfl
    | true => exact absurd (Nat.eq_of_beq_eq_true hh) hne
  simp only [pairOk, hb, ht, Bool.false_or, Bool.and_eq_true, Bool.or_eq_true, Bool.not_eq_true'] at h2
  refine ⟨fun e => ?_, fun hm => ?_⟩
  · rw [e] at h2
    simp at h2
  · have hm' := (memN_iff _ _).2 hm
    rcases h2.2 with (h3 | h3) | h3
    · rw [hm'] at h3; cases h3
    · exact .inl h3
    · exact .inr h3

def RanE (ops : Array Oper) (e : Env) (o : Oper) : Prop := o.guard = none ∨ ∃ j want d, o.guard = some (j, want) ∧ (ops[j]?).bind (·.dst) = some d ∧ e.find d = some (.bool want)
def SkipE (ops : Array Oper) (e : Env) (o : Oper) : Prop := ∃ j want d v, o.guard = some (j, want) ∧ (ops[j]?).bind (·.dst) = some d ∧ e.find d = some v ∧ v ≠ .bool want

def Pend (P : Program) (ops : Array Oper) (N : Nat) (e : Env) (h : Heap) (q : Nat) : Prop :=
  ∃ o, ops[q]? = some o ∧ isQuiet o = true ∧ notDefer o = true ∧ dstOk N o = true ∧
    ((∃ v, RanE ops e o ∧ hasAll e o = true ∧ (∀ cs b, o.op ≠ .select cs b) ∧ QVal P e.ev o h v ∧ ∀ d, o.dst = some d → e.find d = some v) ∨
     (SkipE ops e o ∧ ∀ d, o.dst = some d → e.find d = some undef))

structure St (P : Program) (ops : Array Oper) (N : Nat) (L : Nat → Prop) (e : Env) (h : Heap) (a : Act) (done : List Nat) : Prop where
  ld : ∀ i, L i → i ∈ done
  dlt : ∀ i ∈ done, i < ops.size
  dcl : ∀ i ∈ done, ∀ o, ops[i]? = some o → ∀ p ∈ preds o, p ∈ done
  lcl : ∀ i, L i → ∀ o, ops[i]? = some o → ∀ p ∈ preds o, L p
  pend : ∀ q ∈ done, ¬ L q → Pend P ops N e h q
  tsz : a.tmps.size = N
  fit : ∀ (t : Nat) v, e.find t = some v → (∀ q ∈ done, ¬ L q → ∀ o, ops[q]? = some o → o.dst ≠ some t) → a.tmps[t]? = some v

theorem readyB_iff {done : List Nat} {i : Nat} : readyB ops done i = true ↔ ∃ o, ops[i]? = some o ∧ i ∉ done ∧ ∀ p ∈ preds o, p ∈ done := by
  unfold readyB
  cases ho : ops[i]? with
  | none => simp
  | some o =>
    constructor
    · intro h
      simp only [Bool.and_eq_true, Bool.not_eq_true', List.all_eq_true] at h
      refine ⟨o, rfl, fun hm => ?_, fun p hp => (memN_iff _ _).1 (h.2 p hp)⟩
      rw [(memN_iff _ _).2 hm] at h
      exact absurd h.1 (by simp)
    · rintro ⟨o', e, h1, h2⟩
      cases e
      simp only [Bool.and_eq_true, Bool.not_eq_true', List.all_eq_true]
      refine ⟨?_, fun p hp => (memN_iff _ _).2 (h2 p hp)⟩
      cases hm : memN done i with
      | false => rfl
      | true => exact absurd ((memN_iff _ _).1 hm) h1

theorem scanQ_some {done l : List Nat} {i : Nat} (h : scanQ ops done l = some i) : readyB ops done i = true ∧ quietAt ops i = true := by
  induction l with
  | nil => cases h
  | cons j l ih =>
    simp only [scanQ] at h
    split at h
    · rename_i hb; cases h; simpa using hb
    · exact ih h

theorem scanQ_none {done l : List Nat} (h : scanQ ops done l = none) : ∀ i ∈ l, readyB ops done i = true → quietAt ops i = false := by
  induction l with
  | nil => intro i hi; cases hi
  | cons j l ih =>
    simp only [scanQ] at h
    split at h
    · cases h
    · rename_i hb
      intro i hi hr
      rcases List.mem_cons.1 hi with rfl | hi
      · rw [hr] at hb; simpa using hb
      · exact ih h i hi hr

theorem Env.ev_congr {e e' : Env} {x : Operand} (h : ∀ t, x = .tmp t → e'.find t = e.find t) : e'.ev x = e.ev x := by
  cases x with
  | tmp t => simp only [Env.ev, h t rfl]
  | _ => rfl

theorem Env.has_congr {e e' : Env} {x : Operand} (h : ∀ t, x = .tmp t → e'.find t = e.find t) : e'.has x = e.has x := by
  cases x with
  | tmp t => simp only [Env.has, h t rfl]
  | _ => rfl

theorem mem_readsOf_guard {o : Oper} {j : Nat} {want : Bool} {d : Nat} (hg : o.guard = some (j, want)) (hj : (ops[j]?).bind (·.dst) = some d) : d ∈ readsOf ops o := by
  unfold readsOf
  rw [hg]
  simp only [hj]
  exact List.mem_append.2 (.inr (by simp))

theorem mem_readsOf_operand {o : Oper} {t : Nat} (h : Operand.tmp t ∈ o.op.operands) : t ∈ readsOf ops o := by
  unfold readsOf
  exact List.mem_append.2 (.inl (List.mem_filterMap.2 ⟨.tmp t, by simpa using h, rfl⟩))

theorem RanE.congr {e e' : Env} {o : Oper} (hr : RanE ops e o) (he : ∀ t ∈ readsOf ops o, e'.find t = e.find t) : RanE ops e' o := by
  rcases hr with hg | ⟨j, want, d, hg, hj, hv⟩
  · exact .inl hg
  · exact .inr ⟨j, want, d, hg, hj, by rw [he d (mem_readsOf_guard hg hj)]; exact hv⟩

theorem SkipE.congr {e e' : Env} {o : Oper} (hr : SkipE ops e o) (he : ∀ t ∈ readsOf ops o, e'.find t = e.find t) : SkipE ops e' o := by
  obtain ⟨j, want, d, v, hg, hj, hv, hne⟩ := hr
  exact ⟨j, want, d, v, hg, hj, by rw [he d (mem_readsOf_guard hg hj)]; exact hv, hne⟩

theorem hasAll.congr {e e' : Env} {o : Oper} (hr : hasAll e o = true) (he : ∀ t ∈ readsOf ops o, e'.find t = e.find t) : hasAll e' o = true := by
  unfold hasAll at hr ⊢
  rw [List.all_eq_true] at hr ⊢
  intro x hx
  rw [Env.has_congr (fun t ht => he t (mem_readsOf_operand (by subst ht; simpa using hx)))]
  exact hr x hx

theorem exec_congr {e e' : Env} {o : Oper} (hsel : ∀ cs b, o.op ≠ .select cs b) (he : ∀ t ∈ readsOf ops o, e'.find t = e.find t) : execOp e'.ev o = execOp e.ev o :=
  execOp_congr o hsel fun x hx => Env.ev_congr fun t ht => he t (mem_readsOf_operand (by subst ht; exact hx))

theorem QVal.congr {e e' : Env} {o : Oper} {h h' : Heap} {v : Value} (hq : QVal P e.ev o h v) (hsel : ∀ cs b, o.op ≠ .select cs b) (he : ∀ t ∈ readsOf ops o, e'.find t = e.find t)
    (hh : ∀ t x, o.op = .load t x → LdOk P e.ev t x h v → LdOk P e.ev t x h' v) : QVal P e'.ev o h' v := by
  have hex := exec_congr hsel he
  unfold QVal at hq ⊢
  cases hop : o.op with
  | load t x =>
    rw [hop] at hq
    simp only at hq ⊢
    have hl := hh t x hop hq
    unfold LdOk at hl ⊢
    have hx : e'.ev x = e.ev x := Env.ev_congr fun t' ht => he t' (mem_readsOf_operand (by subst ht; simp [hop, Op.operands]))
    rw [hx]; exact hl
  | _ => rw [hop] at hq; simp only at hq ⊢; rw [hex]; exact hq

theorem Pend.congr {e e' : Env} {h h' : Heap} {q : Nat} (hp : Pend P ops N e h q) (he : ∀ o, ops[q]? = some o → ∀ t ∈ readsOf ops o, e'.find t = e.find t)
    (hd : ∀ o, ops[q]? = some o → ∀ d, o.dst = some d → e'.find d = e.find d)
    (hh : ∀ o t x v, ops[q]? = some o → o.op = .load t x → RanE ops e o → (∀ d, o.dst = some d → e.find d = some v) → LdOk P e.ev t x h v → LdOk P e.ev t x h' v) : Pend P ops N e' h' q := by
  obtain ⟨o, ho, h1, h2, h3, h4⟩ := hp
  refine ⟨o, ho, h1, h2, h3, ?_⟩
  rcases h4 with ⟨v, hran, hall, hsel, hq, hdst⟩ | ⟨hsk, hdst⟩
  · exact .inl ⟨v, hran.congr (he o ho), hasAll.congr hall (he o ho), hsel, hq.congr hsel (he o ho) (fun t x hop hl => hh o t x v ho hop hran hdst hl), fun d hd' => by rw [hd o ho d hd']; exact hdst d hd'⟩
  · exact .inr ⟨hsk.congr (he o ho), fun d hd' => by rw [hd o ho d hd']; exact hdst d hd'⟩

theorem advance {L : Nat → Prop} {a : Act} {K : Env → HP} {h : Heap} (hok : regOk ops (bsOf ops) = true) : ∀ (n : Nat) (done : List Nat) (e : Env),
    St P ops N L e h a done → expVC P ops N (bsOf ops) n done K e h →
    ∃ n' done' e', St P ops N L e' h a done' ∧ expVC P ops N (bsOf ops) n' done' K e' h ∧ scanQ ops done' (List.range ops.size) = none := by
  intro n
  induction n with
  | zero => intro done e _ hv; exact hv.elim
  | succ n ih =>
    intro done e st hv
    cases hs : scanQ ops done (List.range ops.size) with
    | none => exact ⟨n + 1, done, e, st, hv, hs⟩
    | some i =>
      obtain ⟨hr, hqt⟩ := scanQ_some hs
      simp only [expVC, hs, stepVC] at hv
      obtain ⟨o, ho, hnd, hpr⟩ := readyB_iff.1 hr
      have hquiet : isQuiet o = true := by simpa [quietAt, ho] using hqt
      rw [ho] at hv
      simp only at hv
      split at hv
      case h_2 => exact hv.elim
      case h_1 hb =>
        simp only [Bool.and_eq_true] at hb
        obtain ⟨e1, he1, hc⟩ := guardVC_ok hv
        have hnL : ¬ L i := fun hl => hnd (st.ld i hl)
        -- the frame behind it
        have key : ∀ v : Value, (Pend P ops N (e1.put o.dst v) h i) → St P ops N L (e1.put o.dst v) h a (i :: done) := by
          intro v hpi
          have hfind : ∀ t, (e1.put o.dst v).find t = if o.dst = some t then some v else e.find t := fun t => by rw [Env.find_put, he1]
          refine ⟨fun j hj => List.mem_cons_of_mem _ (st.ld j hj), ?_, ?_, st.lcl, ?_, st.tsz, ?_⟩
          · intro j hj
            rcases List.mem_cons.1 hj with rfl | hj
            · exact (Array.getElem?_eq_some_iff.1 ho).1
            · exact st.dlt j hj
          · intro j hj oj hoj p hp
            rcases List.mem_cons.1 hj with rfl | hj
            · rw [ho] at hoj; cases hoj; exact List.mem_cons_of_mem _ (hpr p hp)
            · exact List.mem_cons_of_mem _ (st.dcl j hj oj hoj p hp)
          · intro q hq hql
            rcases List.mem_cons.1 hq with rfl | hq
            · exact hpi
            · have hne : q ≠ i := fun e => hnd (e ▸ hq)
              refine (st.pend q hq hql).congr ?_ ?_ ?_
              · intro oq hoq t ht
                rw [hfind]
                split
                · rename_i hd
                  obtain ⟨_, h2⟩ := regOk_pair hok hoq ho hne hd
                  rcases h2 ht with h3 | ⟨h3, _⟩
                  · exact absurd (bit_in (L := fun x => x ∈ done) (regOk_low hok) st.dcl hoq (st.dcl q hq oq hoq) h3) hnd
                  · rw [hquiet] at h3; cases h3
                · rfl
              · intro oq hoq d hd
                rw [hfind]
                split
                · rename_i hd2
                  exact absurd hd (regOk_pair hok hoq ho hne hd2).1
                · rfl
              · intro oq t x v' hoq hop _ _ hl
                exact hl
          · intro t u hu hfree
            rw [hfind] at hu
            split at hu
            · rename_i hd
              exact absurd hd (hfree i (by simp) hnL o ho)
            · exact st.fit t u hu fun q hq hql oq hoq => hfree q (List.mem_cons_of_mem _ hq) hql oq hoq
        have hown : ∀ v : Value, ∀ t ∈ readsOf ops o, (e1.put o.dst v).find t = e1.find t := fun v t ht => by
          rw [Env.find_put]
          split
          · rename_i hd; exact absurd ht (regOk_own hok ho hquiet hd)
          · rfl
        have hown' : ∀ v : Value, ∀ t ∈ readsOf ops o, (e1.put o.dst v).find t = e.find t := fun v t ht => (hown v t ht).trans (he1 t)
        have hdst : ∀ v : Value, ∀ d, o.dst = some d → (e1.put o.dst v).find d = some v := fun v d hd => by rw [Env.find_put, if_pos hd]
        rcases hc with ⟨hrun, hg⟩ | ⟨hskip, hsk⟩
        · unfold runVC at hrun
          split at hrun
          case h_2 => exact hrun.elim
          case h_1 hall =>
            have hsel := opVC_noSelect hrun
            obtain ⟨v, hK, hqv⟩ := opVC_quiet hquiet hrun
            refine ih _ _ (key v ⟨o, ho, hquiet, hb.1, hb.2, .inl ⟨v, RanE.congr hg (hown' v), hasAll.congr hall (hown v), hsel, ?_, hdst v⟩⟩) hK
            exact hqv.congr hsel (hown v) (fun _ _ _ hl => hl)
        · exact ih _ _ (key undef ⟨o, ho, hquiet, hb.1, hb.2, .inr ⟨SkipE.congr hsk (hown' undef), hdst undef⟩⟩) hskip

theorem LdOk.grown {ρ : Operand → Value} {t : TypeId} {x : Operand} {h h' : Heap} {v : Value} (hl : LdOk P ρ t x h v) (hg : GrownH h h') : LdOk P ρ t x h' v := by
  have hc : ∀ (b : Addr) u, cell h b = some u → cell h' b = some u := by
    intro b u hb
    unfold cell at hb ⊢
    have hlt : b.block < h.size := by
      rcases Nat.lt_or_ge b.block h.size with h1 | h1
      · exact h1
      · rw [Array.getElem?_eq_none h1] at hb; cases hb
    rw [hg.2 b.block hlt]; exact hb
  have hcs : ∀ (b : Addr) (us : List Value) (i : Nat), CellsAt h b i us → CellsAt h' b i us := by
    intro b us
    induction us with
    | nil => intro i _; trivial
    | cons u us ih => intro i hh; exact ⟨hc _ _ hh.1, ih _ hh.2⟩
  obtain ⟨a, hx, i, d, hi, hd, hcc⟩ := hl
  refine ⟨a, hx, i, d, hi, hd, ?_⟩
  rcases hcc with ⟨hA, cs, rfl, hsz, hcells⟩ | ⟨hA, hcell⟩
  · exact .inl ⟨hA, cs, rfl, hsz, hcs _ _ _ hcells⟩
  · exact .inr ⟨hA, hc _ _ hcell⟩

theorem rcs_ok {e : Env} {K : HP} {h' : Heap} : ∀ (l : List Nat), rcs P ops e l K h' → K h' ∧ ∀ q ∈ l, ∀ o t x v h, ops[q]? = some o → o.op = .load t x → RanE ops e o → (∀ d, o.dst = some d → e.find d = some v) → o.dst ≠ none →
    LdOk P e.ev t x h v → LdOk P e.ev t x h' v
  | [], hh => ⟨hh, fun q hq => by cases hq⟩
  | q :: l, hh => by
    simp only [rcs, rcOne] at hh
    split at hh
    · exact hh.elim
    · rename_i oq hoq
      split at hh
      · rename_i t x hop
        split at hh
        · rename_i hran
          obtain ⟨hK, hrest⟩ := rcs_ok l hh
          refine ⟨hK, fun q' hq' => ?_⟩
          rcases List.mem_cons.1 hq' with rfl | hq'
          · intro o t' x' v h ho hop' hr hd hne hl
            rw [hoq] at ho; cases ho
            exfalso
            rcases hr with hg | ⟨j, want, d, hg, hj, hv⟩
            · simp [ranB, hg] at hran
            · simp only [ranB, hg, hj, hv] at hran
              cases want <;> simp at hran
          · exact hrest q' hq'
        · split at hh
          · rename_i hdn
            obtain ⟨hK, hrest⟩ := rcs_ok l hh
            refine ⟨hK, fun q' hq' => ?_⟩
            rcases List.mem_cons.1 hq' with rfl | hq'
            · intro o t' x' v h ho hop' hr hd hne hl
              rw [hoq] at ho; cases ho
              exact absurd hdn hne
            · exact hrest q' hq'
          · rename_i d hd
            split at hh
            · rename_i a td v hx htd hv
              split at hh
              · rename_i hA
                split at hh
                · rename_i cs
                  obtain ⟨hc, hh⟩ := hh
                  obtain ⟨hK, hrest⟩ := rcs_ok l hh
                  refine ⟨hK, fun q' hq' => ?_⟩
                  rcases List.mem_cons.1 hq' with rfl | hq'
                  · intro o t' x' v' h ho hop' hr hdd hne hl
                    rw [hoq] at ho; cases ho
                    rw [hop] at hop'; cases hop'
                    have := hdd d hd; rw [hv] at this; cases this
                    obtain ⟨a', hx', i', d', hi', hd', hcc⟩ := hl
                    rw [hx] at hx'; cases hx'
                    rw [htd] at hd'; cases hd'
                    rcases hcc with ⟨_, cs', e', hsz, _⟩ | ⟨hA', _⟩
                    · cases e'
                      exact ⟨a, hx, i', td, hi', htd, .inl ⟨hA, cs, rfl, hsz, hc⟩⟩
                    · rw [hA] at hA'; cases hA'
                  · exact hrest q' hq'
                · exact hh.elim
              · rename_i hA
                obtain ⟨hc, hh⟩ := hh
                obtain ⟨hK, hrest⟩ := rcs_ok l hh
                refine ⟨hK, fun q' hq' => ?_⟩
                rcases List.mem_cons.1 hq' with rfl | hq'
                · intro o t' x' v' h ho hop' hr hdd hne hl
                  rw [hoq] at ho; cases ho
                  rw [hop] at hop'; cases hop'
                  have := hdd d hd; rw [hv] at this; cases this
                  obtain ⟨a', hx', i', d', hi', hd', hcc⟩ := hl
                  rw [hx] at hx'; cases hx'
                  rw [htd] at hd'; cases hd'
                  exact ⟨a, hx, i', td, hi', htd, .inr ⟨hA, hc⟩⟩
                · exact hrest q' hq'
            · exact hh.elim
      · rename_i hnl
        obtain ⟨hK, hrest⟩ := rcs_ok l hh
        refine ⟨hK, fun q' hq' => ?_⟩
        rcases List.mem_cons.1 hq' with rfl | hq'
        · intro o t' x' v h ho hop' hr hd hne hl
          rw [hoq] at ho; cases ho
          exact absurd hop' (hnl _ _)
        · exact hrest q' hq'

theorem conjVC_all {f : Nat → HP} {h : Heap} : ∀ (i : Nat) (l : List Nat), conjVC f i l h → ∀ j ∈ i :: l, f j h
  | i, [], hh => fun j hj => by simp at hj; subst hj; exact hh
  | i, k :: r, hh => fun j hj => by
    rcases List.mem_cons.1 hj with rfl | hj
    · exact hh.1
    · exact conjVC_all k r hh.2 j hj

theorem filter_lt {α : Type} {l : List α} {p p' : α → Bool} (hp : ∀ x, p' x = true → p x = true) {i : α} (hi : i ∈ l) (h1 : p i = true) (h2 : p' i = false) : (l.filter p').length < (l.filter p).length := by
  have mono : ∀ l : List α, (l.filter p').length ≤ (l.filter p).length := by
    intro l
    induction l with
    | nil => simp
    | cons x l ih =>
      simp only [List.filter_cons]
      cases hx : p' x with
      | true => rw [hp x hx]; simpa using ih
      | false => cases p x <;> simp <;> omega
  induction l with
  | nil => cases hi
  | cons x l ih =>
    simp only [List.filter_cons]
    rcases List.mem_cons.1 hi with rfl | hi
    · rw [h1, h2]; simp; have := mono l; omega
    · have := ih hi
      cases hx : p' x with
      | true => rw [hp x hx]; simpa using this
      | false => cases p x <;> simp <;> omega

theorem expVC_sound {K : Env → HP} (hok : regOk ops (bsOf ops) = true) : ∀ (fuel : Nat) (listed : Array Bool) (n : Nat) (done : List Nat) (e : Env) (h : Heap) (a : Act) (w : World), w.heap = h → listed.size = ops.size →
    ((List.range ops.size).filter fun i => !listed.getD i false).length ≤ fuel →
    St P ops N (fun i => listed.getD i false = true) e h a done → expVC P ops N (bsOf ops) n done K e h →
    AnyRun P ops (fun a' w' => ∃ e', Fits N e' a'.tmps ∧ K e' w'.heap) fuel listed a w := by
  intro fuel
  -- where all has come
  have fin : ∀ (listed : Array Bool) (n : Nat) (done : List Nat) (e : Env) (h : Heap) (a : Act) (w : World), w.heap = h → (∀ i, i < ops.size → listed.getD i false = true) →
      St P ops N (fun i => listed.getD i false = true) e h a done → expVC P ops N (bsOf ops) n done K e h → ∃ e', Fits N e' a.tmps ∧ K e' w.heap := by
    intro listed n done e h a w hw hall st hv
    subst hw
    obtain ⟨n', done', e', st', hv', hs'⟩ := advance hok n done e st hv
    cases n' with
    | zero => exact hv'.elim
    | succ n' =>
      simp only [expVC, hs'] at hv'
      have hd : ∀ i, i < ops.size → i ∈ done' := fun i hi => st'.ld i (hall i hi)
      have hnil : (List.range ops.size).filter (readyB ops done') = [] := by
        rw [List.filter_eq_nil_iff]
        intro i hi hr
        obtain ⟨o, ho, hn, _⟩ := readyB_iff.1 hr
        exact hn (hd i (by simpa using hi))
      rw [hnil] at hv'
      simp only at hv'
      split at hv'
      · exact ⟨e', ⟨st'.tsz, fun t v hv => st'.fit t v hv fun q hq hql => absurd (hall q (st'.dlt q hq)) hql⟩, hv'⟩
      · exact hv'.elim
  induction fuel with
  | zero =>
    intro listed n done e h a w hw hsz hle st hv
    have hall : ∀ i, i < ops.size → listed.getD i false = true := by
      intro i hi
      cases hl : listed.getD i false with
      | true => rfl
      | false =>
        have : i ∈ (List.range ops.size).filter fun i => !listed.getD i false := List.mem_filter.2 ⟨by simpa using hi, by simp [hl]⟩
        have hnil : (List.range ops.size).filter (fun i => !listed.getD i false) = [] := List.eq_nil_of_length_eq_zero (by omega)
        rw [hnil] at this; cases this
    refine ⟨?_, fin listed n done e h a w hw hall st hv⟩
    cases hr : Region.ready .any ops listed with
    | nil => rfl
    | cons i l =>
      have hm : i ∈ Region.ready .any ops listed := by rw [hr]; simp
      obtain ⟨h1, o, ho, _⟩ := mem_ready.1 hm
      have hlt : i < ops.size := (Array.getElem?_eq_some_iff.1 ho).1
      have h2 := hall i hlt
      have e1 : listed.getD i true = listed.getD i false := by simp [Array.getD, show i < listed.size by omega]
      rw [e1, h2] at h1; cases h1
  | succ fuel ih =>
    intro listed n done e h a w hw hsz hle st hv
    have hgd : ∀ i, i < ops.size → listed.getD i true = listed.getD i false := fun i hi => by simp [Array.getD, show i < listed.size by omega]
    refine ⟨fun hr => ?_, fun i hi => ?_⟩
    · -- nothing is ready: all has come
      refine fin listed n done e h a w hw (fun i hi => ?_) st hv
      induction i using Nat.strongRecOn with
      | _ i ihi =>
        cases hl : listed.getD i false with
        | true => rfl
        | false =>
          obtain ⟨o, ho⟩ : ∃ o, ops[i]? = some o := ⟨ops[i], by simp [hi]⟩
          have : i ∈ Region.ready .any ops listed := by
            refine mem_ready.2 ⟨by rw [hgd i hi]; exact hl, o, ho, fun ed hed hb => ?_⟩
            have hp : ed.on ∈ preds o := List.mem_map.2 ⟨ed, List.mem_filter.2 ⟨by simpa using hed, hb⟩, rfl⟩
            have hlt := regOk_low hok i o ho _ hp
            exact ihi _ hlt (by omega)
          rw [hr] at this; cases this
    · obtain ⟨hl1, o, ho, hpr⟩ := mem_ready.1 hi
      have hilt : i < ops.size := (Array.getElem?_eq_some_iff.1 ho).1
      have hl : listed.getD i false = false := by rw [← hgd i hilt]; exact hl1
      have hprL : ∀ p ∈ preds o, listed.getD p false = true := by
        intro p hp
        obtain ⟨ed, hed, rfl⟩ := List.mem_map.1 hp
        obtain ⟨h1, h2⟩ := List.mem_filter.1 hed
        exact hpr ed (by simpa using h1) h2
      have hset : ∀ j, (listed.setIfInBounds i true).getD j false = true ↔ (j = i ∨ listed.getD j false = true) := by
        intro j
        by_cases hji : j = i
        · subst hji; simp [Array.getD_eq_getD_getElem?, Array.getElem?_setIfInBounds, show j < listed.size by omega]
        · simp [Array.getD_eq_getD_getElem?, Array.getElem?_setIfInBounds, Ne.symm hji, hji]
      have hcount : ((List.range ops.size).filter fun j => !(listed.setIfInBounds i true).getD j false).length ≤ fuel := by
        have := filter_lt (l := List.range ops.size) (p := fun j => !listed.getD j false) (p' := fun j => !(listed.setIfInBounds i true).getD j false) (i := i)
          (fun x hx => by
            simp only [Bool.not_eq_true', Bool.not_eq_eq_eq_not, Bool.not_true] at hx ⊢
            cases hlx : listed.getD x false with
            | false => rfl
            | true => rw [(hset x).2 (.inr hlx)] at hx; cases hx)
          (by simpa using hilt) (by simp [hl]) (by simp [(hset i).2 (.inl rfl)])
        omega
      have hsz' : (listed.setIfInBounds i true).size = ops.size := by simpa using hsz
      obtain ⟨n', done', e', st', hv', hs'⟩ := advance hok n done e st hv
      -- the temporaries that i reads stand in the frame
      have hreads : ∀ t ∈ readsOf ops o, ∀ v, e'.find t = some v → a.tmps[t]? = some v := by
        intro t ht v hv
        refine st'.fit t v hv fun q hq hql oq hoq hd => ?_
        by_cases hqi : q = i
        · subst hqi
          rw [ho] at hoq; cases hoq
          obtain ⟨o2, ho2, hquiet, _⟩ := st'.pend q hq hql
          rw [ho] at ho2; cases ho2
          exact regOk_own hok ho hquiet hd ht
        · obtain ⟨o2, ho2, hquiet, _⟩ := st'.pend q hq hql
          rw [hoq] at ho2; cases ho2
          rcases (regOk_pair hok ho hoq (Ne.symm hqi) hd).2 ht with h3 | ⟨h3, _⟩
          · exact hql (bit_in (L := fun x => listed.getD x false = true) (regOk_low hok) st'.lcl ho hprL h3)
          · rw [hquiet] at h3; cases h3
      have hevalOp : ∀ x ∈ o.op.operands, e'.has x = true → a.eval x = e'.ev x := by
        intro x hx hh
        cases x with
        | tmp t =>
          simp only [Env.has] at hh
          split at hh
          · rename_i v hv
            have := hreads t (mem_readsOf_operand hx) v hv
            simp [Act.eval, Env.ev, hv, Array.getD_eq_getD_getElem?, this]
          · cases hh
        | _ => rfl
      have hexec : hasAll e' o = true → (∀ cs b, o.op ≠ .select cs b) → execOp a.eval o = execOp e'.ev o := fun hall hsel =>
        execOp_congr o hsel fun x hx => hevalOp x hx (List.all_eq_true.1 hall x (by simpa using hx))
      have hwant : RanE ops e' o → Region.wanted o (yielded ops a.tmps) = true := by
        rintro (hg | ⟨j, want, d, hg, hj, hv⟩)
        · simp [Region.wanted, hg]
        · have := hreads d (mem_readsOf_guard hg hj) _ hv
          simp [Region.wanted, hg, yielded, hj, this]
      have hskip : SkipE ops e' o → ¬ Region.wanted o (yielded ops a.tmps) = true := by
        rintro ⟨j, want, d, v, hg, hj, hv, hne⟩
        have := hreads d (mem_readsOf_guard hg hj) _ hv
        simp only [Region.wanted, hg, yielded, hj, Option.bind_some, this]
        cases v <;> simp
        rename_i b
        intro hb; subst hb; exact hne rfl
      have hputsz : ∀ v : Value, (a.put o.dst v).tmps.size = N := by
        intro v; cases hd : o.dst with
        | none => exact st'.tsz
        | some d => simp [Act.put, st'.tsz]
      by_cases hid : i ∈ done'
      · -- it waits
        obtain ⟨o2, ho2, hquiet, hnd, hdk, hP⟩ := st'.pend i hid (by simp [hl])
        rw [ho] at ho2; cases ho2
        simp only [OpGo, ho]
        have next : ∀ v : Value, (∀ d, o.dst = some d → e'.find d = some v) → St P ops N (fun j => (listed.setIfInBounds i true).getD j false = true) e' h (a.put o.dst v) done' := by
          intro v hdv
          refine ⟨fun j hj => ?_, st'.dlt, st'.dcl, ?_, ?_, hputsz v, ?_⟩
          · rcases (hset j).1 hj with rfl | hj
            · exact hid
            · exact st'.ld j hj
          · intro j hj oj hoj p hp
            rcases (hset j).1 hj with rfl | hj
            · rw [ho] at hoj; cases hoj; exact (hset p).2 (.inr (hprL p hp))
            · exact (hset p).2 (.inr (st'.lcl j hj oj hoj p hp))
          · intro q hq hql
            exact st'.pend q hq fun h => hql ((hset q).2 (.inr h))
          · intro t u hu hfree
            by_cases hdt : o.dst = some t
            · have := hdv t hdt
              rw [hu] at this; cases this
              have hlt : t < a.tmps.size := by
                rw [st'.tsz]; unfold dstOk at hdk; rw [hdt] at hdk; simpa [Nat.blt_eq] using hdk
              simp [Act.put, hdt, Array.getElem?_setIfInBounds, hlt]
            · have hbase : a.tmps[t]? = some u := st'.fit t u hu fun q hq hql oq hoq hd => by
                by_cases hqi : q = i
                · subst hqi; rw [ho] at hoq; cases hoq; exact hdt hd
                · exact hfree q hq (fun h => by rcases (hset q).1 h with h | h; exact hqi h; exact hql h) oq hoq hd
              cases hd : o.dst with
              | none => simpa [Act.put] using hbase
              | some d =>
                have hne : d ≠ t := fun e => hdt (by rw [hd, e])
                simp [Act.put, Array.getElem?_setIfInBounds, hne, hbase]
        refine ⟨hnd, ?_⟩
        rcases hP with ⟨v, hran, hall, hsel, hqv, hdv⟩ | ⟨hsk, hdv⟩
        · rw [if_pos (hwant hran), hexec hall hsel]
          exact goes_value (hqv.run w hw) ⟨.refl _, fun _ => .refl _, ih _ n' done' e' h _ w hw hsz' hcount (next v hdv) hv'⟩
        · rw [if_neg (hskip hsk)]
          exact ih _ n' done' e' h _ w hw hsz' hcount (next undef hdv) hv'
      · -- it turns the heap, or a variable
        have hready : readyB ops done' i = true := readyB_iff.2 ⟨o, ho, hid, fun p hp => st'.ld p (hprL p hp)⟩
        have hloud : isQuiet o = false := by
          have := scanQ_none hs' i (by simpa using hilt) hready
          simpa [quietAt, ho] using this
        cases n' with
        | zero => exact hv'.elim
        | succ n' =>
          simp only [expVC, hs'] at hv'
          have hmem : i ∈ (List.range ops.size).filter (readyB ops done') := List.mem_filter.2 ⟨by simpa using hilt, hready⟩
          have hstep : loudVC P ops N (bsOf ops) done' i (expVC P ops N (bsOf ops) n' (i :: done') K) e' h := by
            cases hfl : (List.range ops.size).filter (readyB ops done') with
            | nil => rw [hfl] at hmem; cases hmem
            | cons j js =>
              rw [hfl] at hv' hmem
              exact conjVC_all j js hv' i hmem
          simp only [loudVC, ho] at hstep
          split at hstep
          case h_2 => exact hstep.elim
          case h_1 hb =>
            simp only [Bool.and_eq_true] at hb
            simp only [OpGo, ho]
            refine ⟨hb.1, ?_⟩
            obtain ⟨e1, he1, hc⟩ := guardVC_ok hstep
            -- the frame behind it
            have next : ∀ (v : Value) (h' : Heap), (∀ q ∈ done', listed.getD q false = false → ∀ oq t x u, ops[q]? = some oq → oq.op = .load t x → RanE ops e' oq → (∀ d, oq.dst = some d → e'.find d = some u) → LdOk P e'.ev t x h u → LdOk P e'.ev t x h' u) →
                St P ops N (fun j => (listed.setIfInBounds i true).getD j false = true) (e1.put o.dst v) h' (a.put o.dst v) (i :: done') := by
              intro v h' hkeep
              have hfind : ∀ t, (e1.put o.dst v).find t = if o.dst = some t then some v else e'.find t := fun t => by rw [Env.find_put, he1]
              refine ⟨fun j hj => ?_, ?_, ?_, ?_, ?_, hputsz v, ?_⟩
              · rcases (hset j).1 hj with rfl | hj
                · simp
                · exact List.mem_cons_of_mem _ (st'.ld j hj)
              · intro j hj
                rcases List.mem_cons.1 hj with rfl | hj
                · exact hilt
                · exact st'.dlt j hj
              · intro j hj oj hoj p hp
                rcases List.mem_cons.1 hj with rfl | hj
                · rw [ho] at hoj; cases hoj; exact List.mem_cons_of_mem _ (st'.ld p (hprL p hp))
                · exact List.mem_cons_of_mem _ (st'.dcl j hj oj hoj p hp)
              · intro j hj oj hoj p hp
                rcases (hset j).1 hj with rfl | hj
                · rw [ho] at hoj; cases hoj; exact (hset p).2 (.inr (hprL p hp))
                · exact (hset p).2 (.inr (st'.lcl j hj oj hoj p hp))
              · intro q hq hql
                have hqi : q ≠ i := fun e => hql ((hset q).2 (.inl e))
                have hqd : q ∈ done' := (List.mem_cons.1 hq).resolve_left hqi
                have hqL : ¬ listed.getD q false = true := fun h => hql ((hset q).2 (.inr h))
                refine (st'.pend q hqd hqL).congr ?_ ?_ ?_
                · intro oq hoq t ht
                  rw [hfind]
                  split
                  · rename_i hd
                    rcases (regOk_pair hok hoq ho hqi hd).2 ht with h3 | ⟨_, h3⟩
                    · exact absurd (bit_in (L := fun x => x ∈ done') (regOk_low hok) st'.dcl hoq (st'.dcl q hqd oq hoq) h3) hid
                    · exact absurd (bit_in (L := fun x => listed.getD x false = true) (regOk_low hok) st'.lcl ho hprL h3) hqL
                  · rfl
                · intro oq hoq d hd
                  rw [hfind]
                  split
                  · rename_i hd2
                    exact absurd hd (regOk_pair hok hoq ho hqi hd2).1
                  · rfl
                · intro oq t x u hoq hop hr hdd hl
                  exact hkeep q hqd (by simpa using hqL) oq t x u hoq hop hr hdd hl
              · intro t u hu hfree
                rw [hfind] at hu
                split at hu
                · rename_i hdt
                  cases hu
                  have hlt : t < a.tmps.size := by
                    rw [st'.tsz]; have := hb.2; unfold dstOk at this; rw [hdt] at this; simpa [Nat.blt_eq] using this
                  simp [Act.put, hdt, Array.getElem?_setIfInBounds, hlt]
                · rename_i hdt
                  have hbase : a.tmps[t]? = some u := st'.fit t u hu fun q hq hql oq hoq hd =>
                    hfree q (List.mem_cons_of_mem _ hq) (fun h => by
                      rcases (hset q).1 h with h | h
                      · exact hid (h ▸ hq)
                      · exact hql h) oq hoq hd
                  cases hd : o.dst with
                  | none => simpa [Act.put] using hbase
                  | some d =>
                    have hne : d ≠ t := fun e => hdt (by rw [hd, e])
                    simp [Act.put, Array.getElem?_setIfInBounds, hne, hbase]
            have he1' : ∀ t ∈ readsOf ops o, e'.find t = e1.find t := fun t _ => (he1 t).symm
            rcases hc with ⟨hrun, hg⟩ | ⟨hskp, hsk⟩
            · rw [if_pos (hwant hg)]
              unfold loudRun at hrun
              split at hrun
              case h_2 => exact hrun.elim
              case h_1 hall =>
                have hsel := opVC_noSelect hrun
                have hex : execOp a.eval o = execOp e1.ev o := by
                  rw [hexec (hasAll.congr hall he1') hsel]
                  exact exec_congr hsel he1'
                rw [hex]
                refine (opVC_goes hrun w hw).mono fun v w' hlr => ⟨hlr.1, hlr.2.1, ?_⟩
                obtain ⟨hK, hkeep⟩ := rcs_ok _ hlr.2.2.2
                refine ih _ n' (i :: done') _ w'.heap _ w' rfl hsz' hcount (next v w'.heap ?_) hK
                intro q hqd hqL oq t x u hoq hop hr hdd hl
                cases hck : needsCk o with
                | false =>
                  have := hlr.2.2.1 hck
                  rw [hw] at this
                  exact hl.grown this
                | true =>
                  have hev : e1.ev = e'.ev := funext fun y => Env.ev_congr fun t _ => he1 t
                  have hdne : oq.dst ≠ none := by
                    refine regOk_dst hok hoq ?_
                    simp [isQuiet, hop]
                  have := hkeep q (by
                    rw [hck]
                    refine List.mem_filter.2 ⟨hqd, ?_⟩
                    cases hbit : Nat.testBit ((bsOf ops).getD i 0) q with
                    | false => rfl
                    | true =>
                      have := bit_in (L := fun x => listed.getD x false = true) (regOk_low hok) st'.lcl ho hprL hbit
                      rw [hqL] at this; cases this) oq t x u h hoq hop (hr.congr fun t _ => he1 t) (fun d hd => by rw [he1]; exact hdd d hd) hdne
                  rw [hev] at this
                  exact this hl
            · rw [if_neg (hskip hsk)]
              refine ih _ n' (i :: done') _ h _ w hw hsz' hcount (next undef h fun q _ _ oq t x u _ _ _ _ hl => hl) hskp

theorem cw_region_exp {n0 : Nat} {ro : Option Nat} {id : Nat} {Q : Ex → Env → HP} {e : Env} {a : Act} {w : World} (hm : P.follows .mixedOrders = true) (hok : regOk ops (bsOf ops) = true) (hf : Fits N e a.tmps)
    (h : expVC P ops N (bsOf ops) (ops.size + 1) [] (Q .normal) e w.heap) : CW P n0 ro (.region id ops true) (fun x a' w' => ∃ e', Fits N e' a'.tmps ∧ Q x e' w'.heap) a w := by
  refine cw_region_draw hm fun w1 hw1 => ?_
  refine expVC_sound hok ops.size (Array.replicate ops.size false) (ops.size + 1) [] e w1.heap a w1 rfl (by simp) ?_ ?_ (by rw [hw1]; exact h)
  · exact Nat.le_trans (List.length_filter_le _ _) (by simp)
  · have hno : ∀ i, ¬ (Array.replicate ops.size false).getD i false = true := by
      intro i hi
      simp only [Array.getD_eq_getD_getElem?, Array.getElem?_replicate] at hi
      split at hi <;> simp at hi
    exact { ld := fun i hi => absurd hi (hno i), dlt := fun i hi => (by cases hi), dcl := fun i hi => (by cases hi), lcl := fun i hi => absurd hi (hno i), pend := fun q hq => (by cases hq),
            tsz := hf.1, fit := fun t v hv _ => hf.2 t v hv }

end exp
end Go.Sx
