/-
  What one operation does, said of the heap alone, with typed values. Nothing here names a program.
-/
import Derived.Test.YtchedlkmgahicaaSx2
import Derived.Laws.Tables
set_option linter.unusedVariables false
set_option linter.unusedSimpArgs false
namespace Go.Sx
open Go

structure Sl where
  a : Option Addr
  len : Nat
  cap : Nat

inductive Ty where
  | int (k : IntKind) | bool | ptr | sl | str | val | nil
  | cons (a b : Ty)
  | agg (t : Ty)
  | tup (t : Ty)

@[reducible] def Ty.T : Ty → Type
  | .int _ => Int
  | .bool => Bool
  | .ptr => Option Addr
  | .sl => Sl
  | .str => ByteArray
  | .val => Value
  | .nil => Unit
  | .cons a b => a.T × b.T
  | .agg t => t.T
  | .tup t => t.T

def Ty.ev : (t : Ty) → t.T → Value × List Value
  | .int k, n => (.int k n, [])
  | .bool, b => (.bool b, [])
  | .ptr, p => (.pointer p, [])
  | .sl, s => (.slice s.a s.len s.cap, [])
  | .str, s => (.string s, [])
  | .val, v => (v, [])
  | .nil, _ => (undef, [])
  | .cons a b, x => (undef, (a.ev x.1).1 :: (b.ev x.2).2)
  | .agg t, x => (.agg (t.ev x).2.toArray, [])
  | .tup t, x => (.tuple (t.ev x).2.toArray, [])

def Ty.enc (t : Ty) (x : t.T) : Value := (t.ev x).1
def Ty.vals (t : Ty) (x : t.T) : List Value := (t.ev x).2

def tyLen : Ty → Nat
  | .cons _ b => tyLen b + 1
  | _ => 0

theorem vals_length : ∀ (t : Ty) (x : t.T), (t.vals x).length = tyLen t
  | .cons a b, x => by simp only [Ty.vals, Ty.ev, List.length_cons, tyLen]; rw [← vals_length b x.2]; rfl
  | .int _, _ | .bool, _ | .ptr, _ | .sl, _ | .str, _ | .val, _ | .nil, _ | .agg _, _ | .tup _, _ => rfl

def appTy : Ty → Ty → Ty
  | .cons a b, c => .cons a (appTy b c)
  | _, c => c
def repTy : Nat → Ty → Ty
  | 0, _ => .nil
  | n + 1, t => appTy t (repTy n t)

def leafTy : TypeDesc → Ty
  | .int k => .int k
  | .bool => .bool
  | .string => .str
  | .pointer _ => .ptr
  | .slice _ => .sl
  | _ => .val

def cellsTy (P : Program) : Nat → TypeId → Ty
  | 0, _ => .nil
  | n + 1, t => match P.underlying t with
    | some (.struct fs) => fs.toList.foldr (fun f acc => appTy (cellsTy P n f.type) acc) .nil
    | some (.array len e) => repTy len (cellsTy P n e)
    | some d => .cons (leafTy d) .nil
    | none => .nil

def valTy (P : Program) (t : TypeId) : Ty :=
  match P.underlying t with
  | some (.struct _) | some (.array _ _) => .agg (cellsTy P 6 t)
  | some (.tuple ts) => .tup (ts.toList.foldr (fun t acc => .cons (match P.underlying t with | some (.struct _) | some (.array _ _) => .agg (cellsTy P 6 t) | some d => leafTy d | none => .val) acc) .nil)
  | some d => leafTy d
  | none => .val

def fF : HP := fun _ => False

def unp : (t : Ty) → (Value → (t.T → HP) → HP) × (List Value → (t.T → HP) → HP)
  | .int k => (fun v K => match v with | .int k' n => (bif k == k' then K n else fF) | _ => fF, fun _ _ => fF)
  | .bool => (fun v K => match v with | .bool b => K b | _ => fF, fun _ _ => fF)
  | .ptr => (fun v K => match v with | .pointer p => K p | _ => fF, fun _ _ => fF)
  | .sl => (fun v K => match v with | .slice a l c => K ⟨a, l, c⟩ | _ => fF, fun _ _ => fF)
  | .str => (fun v K => match v with | .string s => K s | _ => fF, fun _ _ => fF)
  | .val => (fun v K => K v, fun _ _ => fF)
  | .nil => (fun _ _ => fF, fun vs K => match vs with | [] => K () | _ => fF)
  | .cons a b => (fun _ _ => fF, fun vs K => match vs with | v :: r => (unp a).1 v fun x => (unp b).2 r fun y => K (x, y) | [] => fF)
  | .agg t => (fun v K => match v with | .agg cs => (unp t).2 cs.toList K | _ => fF, fun _ _ => fF)
  | .tup t => (fun v K => match v with | .tuple cs => (unp t).2 cs.toList K | _ => fF, fun _ _ => fF)

theorem unp_sound : ∀ (t : Ty), (∀ v K h, (unp t).1 v K h → ∃ x, K x h ∧ v = t.enc x) ∧ (∀ vs K h, (unp t).2 vs K h → ∃ x, K x h ∧ vs = t.vals x)
  | .int k => ⟨fun v K h hh => by
      simp only [unp] at hh
      split at hh
      · rename_i k' n
        cases hk : k == k' with
        | false => rw [hk] at hh; exact hh.elim
        | true =>
          rw [hk] at hh
          have e : k = k' := by simpa using hk
          subst e; exact ⟨n, hh, rfl⟩
      · exact hh.elim, fun _ _ _ hh => hh.elim⟩
  | .bool => ⟨fun v K h hh => by
      simp only [unp] at hh; split at hh
      · exact ⟨_, hh, rfl⟩
      · exact hh.elim, fun _ _ _ hh => hh.elim⟩
  | .ptr => ⟨fun v K h hh => by
      simp only [unp] at hh; split at hh
      · exact ⟨_, hh, rfl⟩
      · exact hh.elim, fun _ _ _ hh => hh.elim⟩
  | .sl => ⟨fun v K h hh => by
      simp only [unp] at hh; split at hh
      · exact ⟨_, hh, rfl⟩
      · exact hh.elim, fun _ _ _ hh => hh.elim⟩
  | .str => ⟨fun v K h hh => by
      simp only [unp] at hh; split at hh
      · exact ⟨_, hh, rfl⟩
      · exact hh.elim, fun _ _ _ hh => hh.elim⟩
  | .val => ⟨fun v K h hh => ⟨v, hh, rfl⟩, fun _ _ _ hh => hh.elim⟩
  | .nil => ⟨fun _ _ _ hh => hh.elim, fun vs K h hh => by
      simp only [unp] at hh; split at hh
      · exact ⟨_, hh, rfl⟩
      · exact hh.elim⟩
  | .cons a b => ⟨fun _ _ _ hh => hh.elim, fun vs K h hh => by
      simp only [unp] at hh; split at hh
      · obtain ⟨x, hx, ex⟩ := (unp_sound a).1 _ _ _ hh
        obtain ⟨y, hy, ey⟩ := (unp_sound b).2 _ _ _ hx
        exact ⟨(x, y), hy, by rw [ex, ey]; rfl⟩
      · exact hh.elim⟩
  | .agg t => ⟨fun v K h hh => by
      simp only [unp] at hh; split at hh
      · obtain ⟨x, hx, ex⟩ := (unp_sound t).2 _ _ _ hh
        exact ⟨x, hx, by simp only [Ty.enc, Ty.ev]; rw [← show _ = (t.ev x).2 from ex]⟩
      · exact hh.elim, fun _ _ _ hh => hh.elim⟩
  | .tup t => ⟨fun v K h hh => by
      simp only [unp] at hh; split at hh
      · obtain ⟨x, hx, ex⟩ := (unp_sound t).2 _ _ _ hh
        exact ⟨x, hx, by simp only [Ty.enc, Ty.ev]; rw [← show _ = (t.ev x).2 from ex]⟩
      · exact hh.elim, fun _ _ _ hh => hh.elim⟩

def cell (h : Heap) (a : Addr) : Option Value :=
  match h[a.block]? with
  | some (.cells c _ _) => if a.spot.isSome then none else c[a.off]?
  | _ => none

def wr (h : Heap) (a : Addr) : Prop := ∃ c t, h[a.block]? = some (.cells c t (0, 0)) ∧ a.off < c.size ∧ a.spot = none

def setC (h : Heap) (a : Addr) (v : Value) : Heap :=
  h.modify a.block fun
    | .cells c e f => .cells (if a.spot.isSome then c else c.setIfInBounds a.off v) e f
    | o => o

theorem cell?_eq (w : World) (a : Addr) : w.cell? a = cell w.heap a := rfl
def CellsAt (h : Heap) (a : Addr) : Nat → List Value → Prop
  | _, [] => True
  | i, v :: vs => cell h (a.add i) = some v ∧ CellsAt h a (i + 1) vs

def ldT (t : Ty) (a : Addr) (K : t.T → HP) : HP := fun h => ∃ x : t.T, cell h a = some (t.enc x) ∧ K x h
def ldA (t : Ty) (a : Addr) (K : t.T → HP) : HP := fun h => ∃ x : t.T, CellsAt h a 0 (t.vals x) ∧ K x h
def st1 (a : Addr) (v : Value) (K : HP) : HP := fun h => wr h a ∧ K (setC h a v)
def leafB : Value → Bool
  | .agg _ => false
  | .tuple _ => false
  | _ => true
def stA (a : Addr) : Nat → List Value → HP → HP
  | _, [], K => K
  | i, v :: vs, K => fun h =>
    match leafB v with
    | true => st1 (a.add i) v (stA a (i + 1) vs K) h
    | false => False
def nn (p : Option Addr) (K : Addr → HP) : HP :=
  match p with
  | some a => K a
  | none => fF
def sx (s : Option Addr) (len : Nat) (i : Int) (sz : Nat) (K : Addr → HP) : HP := fun h => ∃ a, s = some a ∧ 0 ≤ i ∧ i < len ∧ K (a.add (i.toNat * sz)) h
def ax (a : Addr) (len : Nat) (i : Int) (sz : Nat) (K : Addr → HP) : HP := fun h => 0 ≤ i ∧ i < len ∧ K (a.add (i.toNat * sz)) h
def six (s : ByteArray) (i : Int) (K : Int → HP) : HP := fun h => ∃ b, 0 ≤ i ∧ s[i.toNat]? = some b ∧ K b.toNat h
def nw (cs : Array Value) (t : TypeId) (K : Nat → HP) : HP := fun h => K h.size (h.push (.cells cs t))
def brB (b : Bool) (A B : HP) : HP :=
  match b with
  | true => A
  | false => B
def nz (y : Int) (K : HP) : HP := fun h => y ≠ 0 ∧ K h
def ge0 (y : Int) (K : HP) : HP := fun h => 0 ≤ y ∧ K h
def pickV (t : Bool) (x y : Value) : Value :=
  match x, y with
  | .bool p, .bool q => .bool (bif t then p else q)
  | x, y => bif t then x else y
def slR (s : Sl) (l hh sz : Nat) : Sl := ⟨if s.cap = l then s.a else s.a.map (·.add (l * sz)), hh - l, s.cap - l⟩
def slB (s : Sl) (l hh : Int) (sz : Nat) (K : Sl → HP) : HP := fun h => 0 ≤ hh ∧ hh ≤ s.cap ∧ 0 ≤ l ∧ l ≤ hh ∧ K (slR s l.toNat hh.toNat sz) h
def slL (s : Sl) (l : Int) (sz : Nat) (K : Sl → HP) : HP := fun h => 0 ≤ l ∧ l ≤ s.len ∧ K (slR s l.toNat s.len sz) h
def slH (s : Sl) (hh : Int) (sz : Nat) (K : Sl → HP) : HP := fun h => 0 ≤ hh ∧ hh ≤ s.cap ∧ K (slR s 0 hh.toNat sz) h
def slM (s : Sl) (l hh mx : Int) (sz : Nat) (K : Sl → HP) : HP := fun h =>
  0 ≤ mx ∧ mx ≤ s.cap ∧ 0 ≤ hh ∧ hh ≤ mx ∧ 0 ≤ l ∧ l ≤ hh ∧ K ⟨if mx.toNat = l.toNat then s.a else s.a.map (·.add (l.toNat * sz)), hh.toNat - l.toNat, mx.toNat - l.toNat⟩ h
def isNilFn : Value → Bool
  | .nilFunc => true
  | _ => false
def fnE (v : Value) (K : Bool → HP) : HP := fun h => (v = .nilFunc ∨ ∃ f a b, v = .func f a b) ∧ K (isNilFn v) h
def zrow (z : Array Value) (n : Nat) : Array Value := (Array.range n).map (z[· % z.size]!)
def mks (e : TypeId) (sz by_ : Nat) (z : Array Value) (len cap : Int) (K : Sl → HP) : HP := fun h =>
  0 ≤ len ∧ len ≤ cap ∧ by_ * cap ≤ 2 ^ 48 ∧ cap < 2 ^ 63 ∧ K ⟨some ⟨h.size, 0, none⟩, len.toNat, cap.toNat⟩ (h.push (.cells (if cap.toNat * sz = 0 then #[] else zrow z (cap.toNat * sz)) e))
def FirstCells (h : Heap) (a : Option Addr) (n : Nat) (vs : List Value) : Prop :=
  match a with
  | some b => vs.length = n ∧ CellsAt h b 0 vs
  | none => vs = []
def apd (e : TypeId) (sz by_ : Nat) (z : Array Value) (s x : Sl) (K : Sl → HP) : HP := fun h =>
  ∃ news, FirstCells h x.a (x.len * sz) news ∧
    (s.len + x.len ≤ s.cap → (match s.a with | some a => stA (a.add (s.len * sz)) 0 news (K ⟨some a, s.len + x.len, s.cap⟩) h | none => K ⟨none, s.len + x.len, s.cap⟩ h)) ∧
    (s.cap < s.len + x.len → (s.len + x.len) * by_ ≤ 140737488355328 ∧ 0 < by_ ∧ ∃ olds, FirstCells h s.a (s.len * sz) olds ∧
        ∀ nc, s.len + x.len ≤ nc → nc < 2 ^ 63 → K ⟨some ⟨h.size, 0, none⟩, s.len + x.len, nc⟩ (h.push (.cells (olds.toArray ++ news.toArray ++ Builtin.zeroCells z (nc - (s.len + x.len))) e)))
def apz (e : TypeId) (sz by_ : Nat) (z : Array Value) (s : Sl) (n : Int) (K : Sl → HP) : HP := fun h =>
  0 ≤ n ∧ n * by_ ≤ 2 ^ 47 ∧ 0 < by_ ∧ 0 < sz ∧
    (s.len + n.toNat ≤ s.cap → (match s.a with | some a => stA (a.add (s.len * sz)) 0 (if n.toNat * sz = 0 then #[] else Builtin.zeroCells z n.toNat).toList (K ⟨some a, s.len + n.toNat, s.cap⟩) h | none => K ⟨none, s.len + n.toNat, s.cap⟩ h)) ∧
    (s.cap < s.len + n.toNat → (s.len + n.toNat) * by_ ≤ 140737488355328 ∧ ∃ olds, FirstCells h s.a (s.len * sz) olds ∧
        ∀ nc, s.len + n.toNat ≤ nc → nc < 2 ^ 63 → K ⟨some ⟨h.size, 0, none⟩, s.len + n.toNat, nc⟩ (h.push (.cells (olds.toArray ++ (if n.toNat * sz = 0 then #[] else Builtin.zeroCells z n.toNat) ++ Builtin.zeroCells z (nc - (s.len + n.toNat))) e)))
def clr (z : Array Value) (s : Sl) (K : HP) : HP := fun h =>
  match s.a with
  | none => K h
  | some a => stA a 0 (Builtin.zeroCells z s.len).toList K h
def hasKV (es : List MapEntry) (κ : IntKind) (x : Int) (v : Value) : Prop := ∃ e ∈ es, e.key = .int κ x ∧ e.val = v
def mapAt (h : Heap) (b : Nat) (κ : IntKind) (es : Array MapEntry) (clk : Nat) : Prop :=
  h[b]? = some (.map es clk) ∧ (∀ e ∈ es.toList, ∃ y, e.key = .int κ y) ∧ es.toList.Pairwise (fun a b => a.key ≠ b.key)
def mkm (K : Nat → HP) : HP := fun h => K h.size (h.push (.map #[] 0))
def mget (τ : Ty) (κ : IntKind) (z : Value) (m : Value) (x : Int) (K : τ.T → HP) : HP := fun h =>
  ∃ b es clk, m = .map (some b) ∧ mapAt h b κ es clk ∧ ∃ v : τ.T, (((∀ e ∈ es.toList, e.key ≠ .int κ x) ∧ z = τ.enc v) ∨ hasKV es.toList κ x (τ.enc v)) ∧ K v h
def mput (κ : IntKind) (m : Value) (x : Int) (v : Value) (K : HP) : HP := fun h =>
  ∃ b es clk, m = .map (some b) ∧ mapAt h b κ es clk ∧ ∀ es' clk', mapAt (h.setIfInBounds b (.map es' clk')) b κ es' clk' →
    (∀ y u, hasKV es'.toList κ y u ↔ (y = x ∧ u = v) ∨ (y ≠ x ∧ hasKV es.toList κ y u)) → K (h.setIfInBounds b (.map es' clk'))
def cpy (sz : Nat) (d s : Sl) (K : Int → HP) : HP := fun h =>
  ∃ vs, FirstCells h s.a (Nat.min s.len d.len * sz) vs ∧ (match d.a with | some a => stA a 0 vs (K (Nat.min s.len d.len)) h | none => K (Nat.min s.len d.len) h)

def CallsH (P : Program) (f : FuncId) (args : Array Value) (h : Heap) (R : Value → HP) : Prop :=
  ∀ w : World, w.heap = h → Goes P (callFunc f args) w fun v w' => Same w w' ∧ R v w'.heap
def CallV (P : Program) (fv : Value) (args : Array Value) (h : Heap) (R : Value → HP) : Prop :=
  ∀ w : World, w.heap = h → Goes P (applyV fv args) w fun v w' => Same w w' ∧ R v w'.heap

theorem CallsH.mono {P : Program} {f : FuncId} {args : Array Value} {h : Heap} {R R' : Value → HP} (c : CallsH P f args h R) (hr : ∀ v h', R v h' → R' v h') : CallsH P f args h R' :=
  fun w e => (c w e).mono fun v w' ⟨s, r⟩ => ⟨s, hr _ _ r⟩
theorem CallV.mono {P : Program} {fv : Value} {args : Array Value} {h : Heap} {R R' : Value → HP} (c : CallV P fv args h R) (hr : ∀ v h', R v h' → R' v h') : CallV P fv args h R' :=
  fun w e => (c w e).mono fun v w' ⟨s, r⟩ => ⟨s, hr _ _ r⟩

def callT (P : Program) (f : FuncId) (args : Array Value) (t : Ty) (K : t.T → HP) : HP := fun h => CallsH P f args h fun v h' => ∃ x : t.T, v = t.enc x ∧ K x h'
def callF (P : Program) (fv : Value) (args : Array Value) (t : Ty) (K : t.T → HP) : HP := fun h => CallV P fv args h fun v h' => ∃ x : t.T, v = t.enc x ∧ K x h'

end Go.Sx
