/-
  One operation: its predicate, and that the machine keeps it. Nothing here names a program.
-/
import Derived.Test.YtchedlkmgahicaaSx3
import Derived.Laws.StructEq
import Derived.ChangeKeysEq
import Derived.MapKept
set_option linter.unusedVariables false
set_option linter.unusedSimpArgs false
namespace Go.Sx
open Go

def semP {α : Type} (P : Program) : Sem α → (α → Prop) → Prop
  | .pure a, k => k a
  | .program f, k => semP P (f P) k
  | .mark _ s, k => semP P s k
  | _, _ => False

theorem semP_sound {α : Type} {P : Program} : ∀ (s : Sem α) (k : α → Prop), semP P s k → ∃ a, k a ∧ ∀ w, s.run P w = .ok a w := by
  intro s
  induction s with
  | pure a => exact fun k h => ⟨a, h, fun _ => rfl⟩
  | program f ih => exact fun k h => ih P k h
  | mark m s ih => exact fun k h => ih k h
  | _ => exact fun k h => h.elim

def semN {α : Type} (P : Program) : Sem α → (α → HP) → HP
  | .pure a, K => K a
  | .program f, K => semN P (f P) K
  | .mark _ s, K => semN P s K
  | .new o k, K => fun h => semN P (k h.size) K (h.push o)
  | _, _ => fF

def GrownH (h h' : Heap) : Prop := h.size ≤ h'.size ∧ ∀ b, b < h.size → h'[b]? = h[b]?

theorem semN_sound {α : Type} {P : Program} : ∀ (s : Sem α) (K : α → HP) (h : Heap), semN P s K h → ∃ a h', K a h' ∧ GrownH h h' ∧ ∀ w : World, w.heap = h → s.run P w = .ok a { w with heap := h' } := by
  intro s
  induction s with
  | pure a => exact fun K h hh => ⟨a, h, hh, ⟨Nat.le_refl _, fun _ _ => rfl⟩, fun w e => by subst e; rfl⟩
  | program f ih => exact fun K h hh => ih P K h hh
  | mark m s ih => exact fun K h hh => ih K h hh
  | new o k ih =>
    intro K h hh
    obtain ⟨a, h', hK, hg, hr⟩ := ih h.size K (h.push o) hh
    refine ⟨a, h', hK, ⟨by have := hg.1; simp at this; omega, fun b hb => ?_⟩, fun w e => ?_⟩
    · rw [hg.2 b (by simp; omega), Array.getElem?_push, if_neg (by omega)]
    · subst e
      have := hr { w with heap := w.heap.push o } rfl
      simpa [Sem.run] using this
  | _ => exact fun K h hh => hh.elim

abbrev Env := List (Nat × Value)
def Env.find : Env → Nat → Option Value
  | [], _ => none
  | (k, v) :: r, t => bif Nat.beq k t then some v else Env.find r t
def Env.ev (e : Env) : Operand → Value
  | .tmp t => (match e.find t with | some v => v | none => undef)
  | .const v => v
  | .global g => .pointer (some ⟨g, 0, none⟩)
  | .func f => .func (.func f) #[] #[]
def Env.has (e : Env) : Operand → Bool
  | .tmp t => (match e.find t with | some _ => true | none => false)
  | _ => true
def Env.put (e : Env) (d : Option Tmp) (v : Value) : Env :=
  match d with
  | some d => (d, v) :: e
  | none => e

theorem Env.find_put (e : Env) (d : Option Tmp) (v : Value) (t : Nat) : (e.put d v).find t = if d = some t then some v else e.find t := by
  cases d with
  | none => simp [Env.put]
  | some d =>
    by_cases h : d = t
    · subst h; simp [Env.put, Env.find]
    · have : Nat.beq d t = false := by
        cases hh : Nat.beq d t with
        | false => rfl
        | true => exact absurd (Nat.eq_of_beq_eq_true hh) h
      simp [Env.put, Env.find, this, h]

def isQuiet (o : Oper) : Bool :=
  match o.op with
  | .move _ | .pick .. | .nilCheck _ | .binOp .. | .unOp .. | .convert .. | .fieldAddr .. | .field .. | .indexAddr .. | .index .. | .extract .. | .load .. | .slice .. | .makeFunc .. | .build .. => true
  | .call { callee := .builtin b, .. } => (match b with | .len | .cap | .min | .max => true | _ => false)
  | _ => false

def nextK (K : Value → Prop) : Next → Prop
  | .value v => K v
  | _ => False

def gen (P : Program) (e : Env) (o : Oper) (K : Value → HP) : HP := fun h => semP P (execOp e.ev o) (nextK fun v => K v h)

def isAggD : TypeDesc → Bool
  | .struct _ | .array _ _ => true
  | _ => false

def ldVC (P : Program) (t : TypeId) (a : Addr) (K : Value → HP) (h : Heap) : Prop :=
  match P.info? t, P.underlying t with
  | some i, some d =>
    (match isAggD d with
     | true => (match Nat.beq (tyLen (cellsTy P 6 t)) i.size with
        | true => ldA (cellsTy P 6 t) a (fun x => K (.agg ((cellsTy P 6 t).vals x).toArray)) h
        | false => False)
     | false => ldT (leafTy d) a (fun x => K ((leafTy d).enc x)) h)
  | _, _ => False

def stVC (P : Program) (t : TypeId) (a : Addr) (v : Value) (K : HP) (h : Heap) : Prop :=
  match P.info? t with
  | some i => (match Nat.beq v.cells.size i.size with | true => stA a 0 v.cells.toList K h | false => False)
  | none => False

def boundV (v : Value) (K : Int → HP) (h : Heap) : Prop :=
  match v with
  | .int _ n => K n h
  | _ => False

def callVC (P : Program) (e : Env) (o : Oper) (c : Call) (K : Value → HP) (h : Heap) : Prop :=
  match c.callee with
  | .value (.func g) => callT P g (c.args.map e.ev) (valTy P o.type) (fun x => K ((valTy P o.type).enc x)) h
  | .value (.tmp t) => callF P (e.ev (.tmp t)) (c.args.map e.ev) (valTy P o.type) (fun x => K ((valTy P o.type).enc x)) h
  | .builtin b =>
    (match b with
     | .append =>
       (match c.argTypes.toList, c.args.toList with
        | [t, t2], [s, x] =>
          (match P.underlying t, P.underlying t2, e.ev s, e.ev x with
           | some (.slice el), some (.slice _), .slice a l cp, .slice b m cp' =>
             (match P.info? el with
              | some i => (match i.zero with | some z => apd el i.size i.bytes z.cells ⟨a, l, cp⟩ ⟨b, m, cp'⟩ (fun s => K (.slice s.a s.len s.cap)) h | none => False)
              | none => False)
           | some (.slice el), some (.int _), .slice a l cp, .int _ n =>
             (match P.info? el with
              | some i => (match i.zero with | some z => apz el i.size i.bytes z.cells ⟨a, l, cp⟩ n (fun s => K (.slice s.a s.len s.cap)) h | none => False)
              | none => False)
           | _, _, _, _ => False)
        | _, _ => False)
     | .copy =>
       (match c.argTypes.toList, c.args.toList with
        | t :: _, [d, s] =>
          (match P.underlying t, e.ev d, e.ev s with
           | some (.slice el), .slice a l cp, .slice b m cp' =>
             (match P.info? el with
              | some i => cpy i.size ⟨a, l, cp⟩ ⟨b, m, cp'⟩ (fun n => K (.int .i64 n)) h
              | none => False)
           | _, _, _ => False)
        | _, _ => False)
     | .clear =>
       (match c.argTypes.toList, c.args.toList with
        | t :: _, [s] =>
          (match P.underlying t, e.ev s with
           | some (.slice el), .slice a l cp =>
             (match P.info? el with
              | some i => (match i.zero with | some z => clr z.cells ⟨a, l, cp⟩ (K undef) h | none => False)
              | none => False)
           | _, _ => False)
        | _, _ => False)
     | .len | .cap | .min | .max => gen P e o K h
     | _ => False)
  | _ => False

def binVC (P : Program) (e : Env) (o : Oper) (op : BinOp) (x y : Operand) (K : Value → HP) (h : Heap) : Prop :=
  match op, e.ev x, e.ev y with
  | .quo, .int k a, .int k' b => (match k == k' with | true => nz b (K (.int k (k.wrap (a.tdiv b)))) h | false => False)
  | .rem, .int k a, .int k' b => (match k == k' with | true => nz b (K (.int k (a.tmod b))) h | false => False)
  | .shl, .int k a, .int _ b => ge0 b (K (.int k (k.wrap (a * 2 ^ (min b.toNat k.bits))))) h
  | .shr, .int k a, .int _ b => ge0 b (K (.int k (a.fdiv (2 ^ (min b.toNat k.bits))))) h
  | _, _, _ => gen P e o K h

def nilVC0 (P : Program) (e : Env) (o : Oper) (op : BinOp) (t : TypeId) (x y : Operand) (K : Value → HP) (h : Heap) : Prop :=
  match op, P.underlying t, e.ev x, e.ev y with
  | .eql, some (.pointer _), .pointer p, .pointer none => K (.bool p.isNone) h
  | .neq, some (.pointer _), .pointer p, .pointer none => K (.bool (!p.isNone)) h
  | .eql, some (.slice _), .slice a _ _, .slice none _ _ => K (.bool a.isNone) h
  | .neq, some (.slice _), .slice a _ _, .slice none _ _ => K (.bool (!a.isNone)) h
  | .eql, some (.func ..), v, .nilFunc => fnE v (fun b => K (.bool b)) h
  | .neq, some (.func ..), v, .nilFunc => fnE v (fun b => K (.bool (!b))) h
  | _, _, _, _ => binVC P e o op x y K h

def eqFs (P : Program) (xs ys : Array Value) : List Field → Option Bool
  | [] => some true
  | f :: fs =>
    match f.name == "_", P.underlying f.type, xs[f.offset]?, ys[f.offset]? with
    | false, some (.int _), some (.int k a), some (.int k' b) => (match k == k', eqFs P xs ys fs with | true, some r => some ((a == b) && r) | _, _ => none)
    | _, _, _, _ => none
def aeq (P : Program) (t : TypeId) (fs : Array Field) (xs ys : Array Value) (K : Bool → HP) (h : Heap) : Prop :=
  match P.stoodInHeld t, P.eqGuardType P.depth t, eqFs P xs ys fs.toList with
  | false, false, some r => K r h
  | _, _, _ => False
def nilVC (P : Program) (e : Env) (o : Oper) (op : BinOp) (t : TypeId) (x y : Operand) (K : Value → HP) (h : Heap) : Prop :=
  match op, P.underlying t, e.ev x, e.ev y with
  | .eql, some (.struct fs), .agg xs, .agg ys => aeq P t fs xs ys (fun b => K (.bool b)) h
  | .neq, some (.struct fs), .agg xs, .agg ys => aeq P t fs xs ys (fun b => K (.bool (!b))) h
  | _, _, _, _ => nilVC0 P e o op t x y K h

def opVC (P : Program) (e : Env) (o : Oper) (K : Value → HP) (h : Heap) : Prop :=
  match o.op with
  | .assign x => K (e.ev x) h
  | .pick c a b => (match e.ev c with | .bool t => K (pickV t (e.ev a) (e.ev b)) h | _ => False)
  | .load t a => (match e.ev a with | .pointer p => nn p (fun ad => ldVC P t ad K) h | _ => False)
  | .store t a v => (match e.ev a with | .pointer p => nn p (fun ad => stVC P t ad (e.ev v) (K undef)) h | _ => False)
  | .nilCheck x => (match e.ev x with | .pointer p => nn p (fun a => K (.pointer (some a))) h | _ => False)
  | .binOp op t x y _ => nilVC P e o op t x y K h
  | .indexAddr t x ix =>
    (match P.underlying t, e.ev x, e.ev ix with
     | some (.array len el), .pointer (some a), .int _ i => (match P.info? el with | some ie => (match Nat.ble len 1 with | true => False | false => ax a len i ie.size (fun ad => K (.pointer (some ad))) h) | none => False)
     | some (.slice el), .slice a len _, .int _ i => (match P.info? el with | some ie => sx a len i ie.size (fun ad => K (.pointer (some ad))) h | none => False)
     | _, _, _ => False)
  | .index t x ix =>
    (match P.underlying t, e.ev x, e.ev ix with
     | some .string, .string s, .int _ i => six s i (fun b => K (.int .u8 b)) h
     | _, _, _ => gen P e o K h)
  | .slice t x lo hi mx =>
    (match mx, P.underlying t, e.ev x with
     | none, some (.slice el), .slice a l c =>
       (match P.info? el with
        | some ie =>
          (match lo, hi with
           | some lo, some hi => boundV (e.ev lo) (fun l' => boundV (e.ev hi) fun h' => slB ⟨a, l, c⟩ l' h' ie.size (fun s => K (.slice s.a s.len s.cap))) h
           | some lo, none => boundV (e.ev lo) (fun l' => slL ⟨a, l, c⟩ l' ie.size (fun s => K (.slice s.a s.len s.cap))) h
           | none, some hi => boundV (e.ev hi) (fun h' => slH ⟨a, l, c⟩ h' ie.size (fun s => K (.slice s.a s.len s.cap))) h
           | none, none => K (.slice a l c) h)
        | none => False)
     | some mx, some (.slice el), .slice a l c =>
       (match P.info? el with
        | some ie =>
          (match lo, hi with
           | some lo, some hi => boundV (e.ev lo) (fun l' => boundV (e.ev hi) fun h' => boundV (e.ev mx) fun m' => slM ⟨a, l, c⟩ l' h' m' ie.size (fun s => K (.slice s.a s.len s.cap))) h
           | none, some hi => boundV (e.ev hi) (fun h' => boundV (e.ev mx) fun m' => slM ⟨a, l, c⟩ 0 h' m' ie.size (fun s => K (.slice s.a s.len s.cap))) h
           | _, _ => False)
        | none => False)
     | _, _, _ => False)
  | .makeSlice t l c =>
    (match P.underlying t, e.ev l, e.ev c with
     | some (.slice el), .int _ n, .int _ m =>
       (match P.info? el with
        | some ie => (match ie.zero with | some z => mks el ie.size ie.bytes z.cells n m (fun s => K (.slice s.a s.len s.cap)) h | none => False)
        | none => False)
     | _, _, _ => False)
  | .call c => callVC P e o c K h
  | .makeMap _ none => mkm (fun b => K (.map (some b))) h
  | .lookup t x ix false =>
    (match P.underlying t, e.ev ix with
     | some (.map kt vt), .int κ i =>
       (match P.underlying kt, P.info? vt, P.underlying vt with
        | some (.int κ'), some ie, some d => (match κ == κ' && !isAggD d, ie.zero with | true, some z => mget (leafTy d) κ z (e.ev x) i (fun v => K ((leafTy d).enc v)) h | _, _ => False)
        | _, _, _ => False)
     | _, _ => False)
  | .mapUpdate t m k x =>
    (match P.underlying t, e.ev k with
     | some (.map kt _), .int κ i =>
       (match P.underlying kt with
        | some (.int κ') => (match κ == κ' with | true => mput κ (e.ev m) i (e.ev x) (K undef) h | false => False)
        | _ => False)
     | _, _ => False)
  | .alloc _ | .box .. | .buildSlice .. => semN P (execOp e.ev o) (fun nx => match nx with | .value v => K v | _ => fF) h
  | .move _ | .unOp .. | .convert .. | .fieldAddr .. | .field .. | .extract .. | .makeFunc .. | .build .. => gen P e o K h
  | _ => False

section sound
variable {P : Program}

def LdOk (P : Program) (ρ : Operand → Value) (t : TypeId) (x : Operand) (h : Heap) (v : Value) : Prop :=
  ∃ a, ρ x = .pointer (some a) ∧ ∃ i d, P.info? t = some i ∧ P.underlying t = some d ∧
    ((isAggD d = true ∧ ∃ cs, v = .agg cs ∧ cs.size = i.size ∧ CellsAt h a 0 cs.toList) ∨ (isAggD d = false ∧ cell h a = some v))

def QVal (P : Program) (ρ : Operand → Value) (o : Oper) (h : Heap) (v : Value) : Prop :=
  match o.op with
  | .load t x => LdOk P ρ t x h v
  | _ => ∀ w : World, (execOp ρ o).run P w = .ok (.value v) w

theorem run_loadCellsFrom (w : World) (a : Addr) : ∀ (vs : List Value) (i : Nat) (acc : Array Value), CellsAt w.heap a i vs → (loadCellsFrom a i vs.length acc).run P w = .ok (acc ++ vs.toArray) w
  | [], i, acc, _ => by simp [loadCellsFrom, pure, Sem.run]
  | v :: vs, i, acc, h => by
    have h1 : w.cell? (a.add i) = some v := h.1
    have := run_loadCellsFrom w a vs (i + 1) (acc.push v) h.2
    simp only [List.length_cons, loadCellsFrom]
    simp only [load, bind, Sem.bind, Sem.run, h1]
    rw [this]; simp

theorem run_loadCells (w : World) (a : Addr) (vs : List Value) (n : Nat) (hn : vs.length = n) (h : CellsAt w.heap a 0 vs) : (loadCells a n).run P w = .ok vs.toArray w := by
  subst hn
  have := run_loadCellsFrom (P := P) w a vs 0 #[] h
  simpa [loadCells] using this

theorem LdOk.run {ρ : Operand → Value} {o : Oper} {t : TypeId} {x : Operand} {h : Heap} {v : Value} (hl : LdOk P ρ t x h v) (ho : o.op = .load t x) (w : World) (hw : w.heap = h) :
    (execOp ρ o).run P w = .ok (.value v) w := by
  obtain ⟨a, hx, i, d, hi, hd, hc⟩ := hl
  subst hw
  have hagg : (isAgg t).run P w = .ok (isAggD d) w := by
    unfold isAgg underlying
    simp only [program, bind, Sem.bind, Sem.run, hd, pure]
    cases d <;> rfl
  rcases hc with ⟨hA, cs, rfl, hsz, hcs⟩ | ⟨hA, hcell⟩
  · have hl : (loadVar t a).run P w = .ok (.agg cs) w := by
      unfold loadVar
      have h1 := run_loadCells (P := P) w a cs.toList i.size (by simpa using hsz) hcs
      simp [Sem.run_bind, hagg, hA, sizeOf, typeInfo, hi, h1]
    simp [execOp, ho, Instr.loadAt, Instr.sureAddr, hx, Sem.run_bind, hl]
  · have hl : (loadVar t a).run P w = .ok v w := by
      unfold loadVar
      have h1 : w.cell? a = some v := hcell
      simp [Sem.run_bind, hagg, hA, load, Sem.run, h1]
    simp [execOp, ho, Instr.loadAt, Instr.sureAddr, hx, Sem.run_bind, hl]

theorem QVal.run {ρ : Operand → Value} {o : Oper} {h : Heap} {v : Value} (hq : QVal P ρ o h v) (w : World) (hw : w.heap = h) : (execOp ρ o).run P w = .ok (.value v) w := by
  unfold QVal at hq
  split at hq
  · rename_i t x ho; exact hq.run ho w hw
  · exact hq w

theorem gen_quiet {e : Env} {o : Oper} {K : Value → HP} {h : Heap} (hg : gen P e o K h) : ∃ v, K v h ∧ ∀ w : World, (execOp e.ev o).run P w = .ok (.value v) w := by
  obtain ⟨nx, hk, hr⟩ := semP_sound _ _ hg
  cases nx <;> first | exact hk.elim | exact ⟨_, hk, hr⟩

theorem binVC_quiet {e : Env} {o : Oper} {op : BinOp} {t : TypeId} {ty : TypeId} {x y : Operand} {K : Value → HP} {h : Heap} (ho : o.op = .binOp op t x y ty) (hg : binVC P e o op x y K h) :
    ∃ v, K v h ∧ ∀ w : World, (execOp e.ev o).run P w = .ok (.value v) w := by
  cases op with
  | quo =>
    cases hx : e.ev x with
    | int k a =>
      cases hy : e.ev y with
      | int k' b =>
        simp only [binVC, hx, hy] at hg
        cases hk : k == k' with
        | false => simp only [hk] at hg
        | true =>
          simp only [hk] at hg
          have e : k = k' := by simpa using hk
          subst e
          obtain ⟨hb, hK⟩ := hg
          refine ⟨_, hK, fun w => ?_⟩
          simp [execOp, ho, hx, hy, eqGuard, binOp, Op.intDiv, hb]
      | _ => unfold binVC at hg; rw [hx, hy] at hg; exact gen_quiet hg
    | _ => unfold binVC at hg; rw [hx] at hg; exact gen_quiet hg
  | rem =>
    cases hx : e.ev x with
    | int k a =>
      cases hy : e.ev y with
      | int k' b =>
        simp only [binVC, hx, hy] at hg
        cases hk : k == k' with
        | false => simp only [hk] at hg
        | true =>
          simp only [hk] at hg
          have e : k = k' := by simpa using hk
          subst e
          obtain ⟨hb, hK⟩ := hg
          refine ⟨_, hK, fun w => ?_⟩
          simp [execOp, ho, hx, hy, eqGuard, binOp, Op.intDiv, hb]
      | _ => unfold binVC at hg; rw [hx, hy] at hg; exact gen_quiet hg
    | _ => unfold binVC at hg; rw [hx] at hg; exact gen_quiet hg
  | shl =>
    cases hx : e.ev x with
    | int k a =>
      cases hy : e.ev y with
      | int k' b =>
        simp only [binVC, hx, hy] at hg
        obtain ⟨hb, hK⟩ := hg
        refine ⟨_, hK, fun w => ?_⟩
        simp [execOp, ho, hx, hy, eqGuard, binOp, Op.shift, show ¬ b < 0 by omega]
      | _ => unfold binVC at hg; rw [hx, hy] at hg; exact gen_quiet hg
    | _ => unfold binVC at hg; rw [hx] at hg; exact gen_quiet hg
  | shr =>
    cases hx : e.ev x with
    | int k a =>
      cases hy : e.ev y with
      | int k' b =>
        simp only [binVC, hx, hy] at hg
        obtain ⟨hb, hK⟩ := hg
        refine ⟨_, hK, fun w => ?_⟩
        simp [execOp, ho, hx, hy, eqGuard, binOp, Op.shift, show ¬ b < 0 by omega]
      | _ => unfold binVC at hg; rw [hx, hy] at hg; exact gen_quiet hg
    | _ => unfold binVC at hg; rw [hx] at hg; exact gen_quiet hg
  | _ => exact gen_quiet hg

theorem run_equalIn_ptr {t el : TypeId} (hu : P.underlying t = some (.pointer el)) (d : Nat) (p : Option Addr) (w : World) : (Op.equalIn (d + 1) t (.pointer p) (.pointer none)).run P w = .ok p.isNone w := by
  cases p <;> simp [Op.equalIn, run_underlying hu]
theorem run_equalIn_sl {t el : TypeId} (hu : P.underlying t = some (.slice el)) (d : Nat) (p : Option Addr) (l c l' c' : Nat) (w : World) : (Op.equalIn (d + 1) t (.slice p l c) (.slice none l' c')).run P w = .ok p.isNone w := by
  cases p <;> simp [Op.equalIn, run_underlying hu]

theorem run_equalIn_fn {t : TypeId} {pa ra : Array TypeId} {va : Bool} (hu : P.underlying t = some (.func pa ra va)) (d : Nat) (v : Value) (hv : v = .nilFunc ∨ ∃ f a b, v = .func f a b) (w : World) :
    (Op.equalIn (d + 1) t v .nilFunc).run P w = .ok (isNilFn v) w := by
  rcases hv with rfl | ⟨f, a, b, rfl⟩ <;> simp [Op.equalIn, run_underlying hu, isNilFn]

theorem nilVC0_quiet {e : Env} {o : Oper} {op : BinOp} {t : TypeId} {ty : TypeId} {x y : Operand} {K : Value → HP} {h : Heap} (ho : o.op = .binOp op t x y ty) (hg : nilVC0 P e o op t x y K h) :
    ∃ v, K v h ∧ ∀ w : World, (execOp e.ev o).run P w = .ok (.value v) w := by
  have key : (nilVC0 P e o op t x y K h → binVC P e o op x y K h) ∨
      (∃ el p, P.underlying t = some (.pointer el) ∧ e.ev x = .pointer p ∧ e.ev y = .pointer none ∧ ((op = .eql ∧ K (.bool p.isNone) h) ∨ (op = .neq ∧ K (.bool (!p.isNone)) h))) ∨
      (∃ pa ra va, P.underlying t = some (.func pa ra va) ∧ e.ev y = .nilFunc ∧ ((op = .eql ∧ fnE (e.ev x) (fun b => K (.bool b)) h) ∨ (op = .neq ∧ fnE (e.ev x) (fun b => K (.bool (!b))) h))) ∨
      (∃ el a l c l' c', P.underlying t = some (.slice el) ∧ e.ev x = .slice a l c ∧ e.ev y = .slice none l' c' ∧ ((op = .eql ∧ K (.bool a.isNone) h) ∨ (op = .neq ∧ K (.bool (!a.isNone)) h))) := by
    cases op with
    | eql =>
      cases hu : P.underlying t with
      | none => left; intro hg; unfold nilVC0 at hg; rw [hu] at hg; exact hg
      | some d =>
        cases d with
        | pointer el =>
          cases hx : e.ev x with
          | pointer p =>
            cases hy : e.ev y with
            | pointer q =>
              cases q with
              | none => right; left; unfold nilVC0 at hg; rw [hu, hx, hy] at hg; exact ⟨el, p, rfl, rfl, rfl, .inl ⟨rfl, hg⟩⟩
              | some _ => left; intro hg; unfold nilVC0 at hg; rw [hu, hx, hy] at hg; exact hg
            | _ => left; intro hg; unfold nilVC0 at hg; rw [hu, hx, hy] at hg; exact hg
          | _ => left; intro hg; unfold nilVC0 at hg; rw [hu, hx] at hg; exact hg
        | slice el =>
          cases hx : e.ev x with
          | slice a l c =>
            cases hy : e.ev y with
            | slice b l' c' =>
              cases b with
              | none => right; right; right; unfold nilVC0 at hg; rw [hu, hx, hy] at hg; exact ⟨el, a, l, c, l', c', rfl, rfl, rfl, .inl ⟨rfl, hg⟩⟩
              | some _ => left; intro hg; unfold nilVC0 at hg; rw [hu, hx, hy] at hg; exact hg
            | _ => left; intro hg; unfold nilVC0 at hg; rw [hu, hx, hy] at hg; exact hg
          | _ => left; intro hg; unfold nilVC0 at hg; rw [hu, hx] at hg; exact hg
        | func pa ra va =>
          cases hy : e.ev y with
          | nilFunc => right; right; left; unfold nilVC0 at hg; rw [hu, hy] at hg; exact ⟨pa, ra, va, rfl, rfl, .inl ⟨rfl, hg⟩⟩
          | _ => left; intro hg; unfold nilVC0 at hg; rw [hu, hy] at hg; exact hg
        | _ => left; intro hg; unfold nilVC0 at hg; rw [hu] at hg; exact hg
    | neq =>
      cases hu : P.underlying t with
      | none => left; intro hg; unfold nilVC0 at hg; rw [hu] at hg; exact hg
      | some d =>
        cases d with
        | pointer el =>
          cases hx : e.ev x with
          | pointer p =>
            cases hy : e.ev y with
            | pointer q =>
              cases q with
              | none => right; left; unfold nilVC0 at hg; rw [hu, hx, hy] at hg; exact ⟨el, p, rfl, rfl, rfl, .inr ⟨rfl, hg⟩⟩
              | some _ => left; intro hg; unfold nilVC0 at hg; rw [hu, hx, hy] at hg; exact hg
            | _ => left; intro hg; unfold nilVC0 at hg; rw [hu, hx, hy] at hg; exact hg
          | _ => left; intro hg; unfold nilVC0 at hg; rw [hu, hx] at hg; exact hg
        | slice el =>
          cases hx : e.ev x with
          | slice a l c =>
            cases hy : e.ev y with
            | slice b l' c' =>
              cases b with
              | none => right; right; right; unfold nilVC0 at hg; rw [hu, hx, hy] at hg; exact ⟨el, a, l, c, l', c', rfl, rfl, rfl, .inr ⟨rfl, hg⟩⟩
              | some _ => left; intro hg; unfold nilVC0 at hg; rw [hu, hx, hy] at hg; exact hg
            | _ => left; intro hg; unfold nilVC0 at hg; rw [hu, hx, hy] at hg; exact hg
          | _ => left; intro hg; unfold nilVC0 at hg; rw [hu, hx] at hg; exact hg
        | func pa ra va =>
          cases hy : e.ev y with
          | nilFunc => right; right; left; unfold nilVC0 at hg; rw [hu, hy] at hg; exact ⟨pa, ra, va, rfl, rfl, .inr ⟨rfl, hg⟩⟩
          | _ => left; intro hg; unfold nilVC0 at hg; rw [hu, hy] at hg; exact hg
        | _ => left; intro hg; unfold nilVC0 at hg; rw [hu] at hg; exact hg
    | _ => exact .inl fun h => h
  rcases key with hk | ⟨el, p, hu, hx, hy, hk⟩ | ⟨pa, ra, va, hu, hy, hk⟩ | ⟨el, p, l, c, l', c', hu, hx, hy, hk⟩
  · exact binVC_quiet ho (hk hg)
  · have hq := run_equalIn_ptr hu 9999 p
    rcases hk with ⟨rfl, hk⟩ | ⟨rfl, hk⟩ <;> refine ⟨_, hk, fun w => ?_⟩ <;>
      simp [execOp, ho, hx, hy, eqGuard, binOp, Op.equal, Op.maxDepth, hq]
  · have hq := run_equalIn_fn hu 9999
    have hne : ∀ v, (v = .nilFunc ∨ ∃ f a b, v = .func f a b) → ∀ op2 w, (eqGuard op2 t x y v .nilFunc).run P w = .ok () w := by
      rintro v (rfl | ⟨f, a, b, rfl⟩) op2 w <;> (cases op2 <;> simp [eqGuard])
    have hb : ∀ v, (v = .nilFunc ∨ ∃ f a b, v = .func f a b) → (binOp .eql t v .nilFunc = (do pure (.bool (← Op.equal t v .nilFunc)))) ∧ (binOp .neq t v .nilFunc = (do pure (.bool (!(← Op.equal t v .nilFunc))))) := by
      rintro v (rfl | ⟨f, a, b, rfl⟩) <;> exact ⟨rfl, rfl⟩
    rcases hk with ⟨rfl, hv, hk⟩ | ⟨rfl, hv, hk⟩ <;> refine ⟨_, hk, fun w => ?_⟩
    · simp [execOp, ho, hy, hne _ hv, (hb _ hv).1, Op.equal, Op.maxDepth, hq _ hv]
    · simp [execOp, ho, hy, hne _ hv, (hb _ hv).2, Op.equal, Op.maxDepth, hq _ hv]
  · have hq := run_equalIn_sl hu 9999 p l c l' c'
    rcases hk with ⟨rfl, hk⟩ | ⟨rfl, hk⟩ <;> refine ⟨_, hk, fun w => ?_⟩ <;>
      simp [execOp, ho, hx, hy, eqGuard, binOp, Op.equal, Op.maxDepth, hq]

theorem eqFs_run (d : Nat) (xs ys : Array Value) (w : World) : ∀ (fs : List Field) (r : Bool), eqFs P xs ys fs = some r → (Op.eqFields (d + 1) xs ys fs).run P w = .ok r w
  | [], r, h => by simp [eqFs] at h; subst h; simp [Op.eqFields]
  | f :: fs, r, h => by
    unfold eqFs at h
    split at h
    · rename_i k k0 k1 a k2 b hn hu hx hy
      split at h
      · rename_i r' hk hr
        simp only [Option.some.injEq] at h
        subst h
        have hkk : k1 = k2 := by simpa using hk
        subst hkk
        have ih := eqFs_run d xs ys w fs r' hr
        have hp : P.plainKey f.type = true := by simp [Program.plainKey, hu]
        have hn' : f.name ≠ "_" := by simpa using hn
        unfold Op.eqFields
        rw [if_pos hn']
        simp only [Sem.run_bind, run_part_plain w hp hx, run_part_plain w hp hy, Result.andThen_ok, run_equalIn_int w d f.type k1 _ a b hu]
        cases hab : a == b
        · simp
        · simp [ih]
      · cases h
    · cases h

theorem nilVC_quiet {e : Env} {o : Oper} {op : BinOp} {t : TypeId} {ty : TypeId} {x y : Operand} {K : Value → HP} {h : Heap} (ho : o.op = .binOp op t x y ty) (hg : nilVC P e o op t x y K h) :
    ∃ v, K v h ∧ ∀ w : World, (execOp e.ev o).run P w = .ok (.value v) w := by
  unfold nilVC at hg
  split at hg
  · rename_i fs xs ys hu hx hy
    unfold aeq at hg
    split at hg
    · rename_i r h1 h2 hr
      have hf : P.fieldsOf t = fs := by simp [Program.fieldsOf, hu]
      refine ⟨_, hg, fun w => ?_⟩
      have hq := run_equalIn_agg (P := P) w 9999 t xs ys (by rw [hf]; exact hu) h1
      rw [hf, eqFs_run 9998 xs ys w _ _ hr] at hq
      simp [execOp, ho, hx, hy, run_eqGuard_agg w .eql t x y xs ys h2, binOp, Op.equal, Op.maxDepth, hq]
    · exact hg.elim
  · rename_i fs xs ys hu hx hy
    unfold aeq at hg
    split at hg
    · rename_i r h1 h2 hr
      have hf : P.fieldsOf t = fs := by simp [Program.fieldsOf, hu]
      refine ⟨_, hg, fun w => ?_⟩
      have hq := run_equalIn_agg (P := P) w 9999 t xs ys (by rw [hf]; exact hu) h1
      rw [hf, eqFs_run 9998 xs ys w _ _ hr] at hq
      simp [execOp, ho, hx, hy, run_eqGuard_agg w .neq t x y xs ys h2, binOp, Op.equal, Op.maxDepth, hq]
    · exact hg.elim
  · exact nilVC0_quiet ho hg

end sound
end Go.Sx
