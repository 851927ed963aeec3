/-
  A region, in the order of the text, or in whatever order its edges allow. Nothing here names a program.
-/
import Derived.Test.YtmlamkoilggonaaGreatSx6
set_option linter.unusedVariables false
set_option linter.unusedSimpArgs false
namespace Go.Sx
open Go

def Fits (N : Nat) (e : Env) (tm : Array Value) : Prop := tm.size = N ∧ ∀ (t : Nat) v, e.find t = some v → tm[t]? = some v

def dstOk (N : Nat) (o : Oper) : Bool := match o.dst with | some d => Nat.blt d N | none => true

def preds (o : Oper) : List Nat := (o.after.toList.filter (Region.binds .any ·)).map (·.on)

def memN : List Nat → Nat → Bool
  | [], _ => false
  | j :: r, i => bif Nat.beq j i then true else memN r i

theorem memN_iff : ∀ (l : List Nat) (i : Nat), memN l i = true ↔ i ∈ l
  | [], i => by simp [memN]
  | j :: r, i => by
    simp only [memN]
    by_cases h : j = i
    · subst h; simp
    · have hb : Nat.beq j i = false := by
        cases hh : Nat.beq j i with
        | false => rfl
        | true => exact absurd (Nat.eq_of_beq_eq_true hh) h
      simp [hb, memN_iff r i, Ne.symm h]

def hasAll (e : Env) (o : Oper) : Bool := o.op.operands.toList.all e.has

/-- A guarded operation runs, or is passed over. -/
def guardVC (ops : Array Oper) (e : Env) (o : Oper) (run skip : Env → HP) (h : Heap) : Prop :=
  match o.guard with
  | none => run e h
  | some (j, want) =>
    match (ops[j]?).bind (·.dst) with
    | none => False
    | some d =>
      match e.find d with
      | some (.bool b) =>
        (match want with
         | true => brB b (run ((d, .bool true) :: e)) (skip ((d, .bool false) :: e)) h
         | false => brB b (skip ((d, .bool true) :: e)) (run ((d, .bool false) :: e)) h)
      | some (.tuple _) => skip e h
      | _ => False

def runVC (P : Program) (o : Oper) (K : Value → Env → HP) (e : Env) (h : Heap) : Prop :=
  match hasAll e o with
  | true => opVC P e o (fun v => K v (e.put o.dst v)) h
  | false => False

def stepVC (P : Program) (ops : Array Oper) (N i : Nat) (K : Env → HP) (e : Env) (h : Heap) : Prop :=
  match ops[i]? with
  | none => False
  | some o =>
    match notDefer o && dstOk N o with
    | true => guardVC ops e o (runVC P o (fun _ e' => K e')) (fun e' => K (e'.put o.dst undef)) h
    | false => False

def seqVC (P : Program) (ops : Array Oper) (N : Nat) : List Nat → (Env → HP) → Env → HP
  | [], K => K
  | i :: r, K => stepVC P ops N i (seqVC P ops N r K)

section seq
variable {P : Program} {ops : Array Oper} {N : Nat}

theorem Fits.put {e : Env} {a : Act} {o : Oper} (h : Fits N e a.tmps) (hd : dstOk N o = true) (v : Value) : Fits N (e.put o.dst v) (a.put o.dst v).tmps := by
  unfold dstOk at hd
  cases ho : o.dst with
  | none => simpa [Act.put, Env.put] using h
  | some d =>
    rw [ho] at hd
    have hlt : d < N := by simpa [Nat.blt_eq] using hd
    refine ⟨by simp [Act.put, h.1], fun t u hu => ?_⟩
    rw [Env.find_put] at hu
    simp only [Act.put]
    by_cases ht : d = t
    · subst ht
      simp only [if_true] at hu
      cases hu
      rw [Array.getElem?_setIfInBounds]; simp [h.1, hlt]
    · rw [if_neg (by simpa using ht)] at hu
      rw [Array.getElem?_setIfInBounds, if_neg ht]
      exact h.2 t u hu

theorem Fits.lit {e : Env} {tm : Array Value} {d : Nat} {v : Value} (h : Fits N e tm) (hd : e.find d = some v) : Fits N ((d, v) :: e) tm := by
  refine ⟨h.1, fun t u hu => ?_⟩
  have := Env.find_put e (some d) v t
  simp only [Env.put] at this
  rw [this] at hu
  by_cases ht : d = t
  · subst ht; simp at hu; subst hu; exact h.2 _ _ hd
  · rw [if_neg (by simpa using ht)] at hu; exact h.2 t u hu

theorem has_eval {e : Env} {a : Act} {x : Operand} (h : Fits N e a.tmps) (hx : e.has x = true) : a.eval x = e.ev x := by
  cases x with
  | tmp t =>
    simp only [Env.has] at hx
    split at hx
    · rename_i v hv
      have := h.2 t v hv
      simp [Act.eval, Env.ev, hv, Array.getD_eq_getD_getElem?, this]
    · cases hx
  | _ => rfl

theorem hasAll_exec {e : Env} {a : Act} {o : Oper} (h : ∀ x ∈ o.op.operands, a.eval x = e.ev x) (hs : ∀ cs b, o.op ≠ .select cs b) : execOp a.eval o = execOp e.ev o :=
  execOp_congr o hs h

theorem opVC_noSelect {e : Env} {o : Oper} {K : Value → HP} {h : Heap} (hh : opVC P e o K h) : ∀ cs b, o.op ≠ .select cs b := by
  intro cs b e
  unfold opVC at hh
  rw [e] at hh
  exact hh.elim

theorem yielded_of_fits {e : Env} {a : Act} {j d : Nat} {v : Value} (h : Fits N e a.tmps) (hd : (ops[j]?).bind (·.dst) = some d) (hv : e.find d = some v) :
    yielded ops a.tmps j = match v with | .bool b => some b | _ => none := by
  unfold yielded
  rw [hd]
  simp only [Option.bind_some, h.2 d v hv]
  cases v <;> rfl

/-- What guardVC decides. -/
theorem guardVC_ok {e : Env} {o : Oper} {run skip : Env → HP} {h : Heap} (hh : guardVC ops e o run skip h) :
    ∃ e' : Env, (∀ t, e'.find t = e.find t) ∧ ((run e' h ∧ (o.guard = none ∨ ∃ j want d, o.guard = some (j, want) ∧ (ops[j]?).bind (·.dst) = some d ∧ e.find d = some (.bool want))) ∨
      (skip e' h ∧ ∃ j want d v, o.guard = some (j, want) ∧ (ops[j]?).bind (·.dst) = some d ∧ e.find d = some v ∧ v ≠ .bool want)) := by
  have same : ∀ (d : Nat) (v : Value), e.find d = some v → ∀ t, Env.find ((d, v) :: e) t = e.find t := by
    intro d v hd t
    have := Env.find_put e (some d) v t
    simp only [Env.put] at this
    rw [this]
    split
    · rename_i ht; cases ht; exact hd.symm
    · rfl
  unfold guardVC at hh
  split at hh
  · rename_i hg; exact ⟨e, fun _ => rfl, .inl ⟨hh, .inl hg⟩⟩
  · rename_i j want hg
    split at hh
    · exact hh.elim
    · rename_i d hd
      split at hh
      · rename_i b hb
        split at hh
        · cases b with
          | true => exact ⟨_, same d _ hb, .inl ⟨hh, .inr ⟨j, true, d, hg, hd, hb⟩⟩⟩
          | false => exact ⟨_, same d _ hb, .inr ⟨hh, j, true, d, _, hg, hd, hb, by simp⟩⟩
        · cases b with
          | true => exact ⟨_, same d _ hb, .inr ⟨hh, j, false, d, _, hg, hd, hb, by simp⟩⟩
          | false => exact ⟨_, same d _ hb, .inl ⟨hh, .inr ⟨j, false, d, hg, hd, hb⟩⟩⟩
      · rename_i vs hb
        exact ⟨e, fun _ => rfl, .inr ⟨hh, j, want, d, _, hg, hd, hb, by simp⟩⟩
      · exact hh.elim

theorem Fits.congr {e e' : Env} {tm : Array Value} (h : Fits N e tm) (he : ∀ t, e'.find t = e.find t) : Fits N e' tm := ⟨h.1, fun t v hv => h.2 t v (by rw [← he]; exact hv)⟩

theorem seqVC_sound : ∀ (l : List Nat) (K : Env → HP) (e : Env) (h : Heap), seqVC P ops N l K e h → ∀ (a : Act) (w : World), w.heap = h → Fits N e a.tmps →
    OpsRun P ops (fun a' w' => ∃ e', Fits N e' a'.tmps ∧ K e' w'.heap) l a w := by
  intro l
  induction l with
  | nil => intro K e h hh a w hw hf; subst hw; exact ⟨e, hf, hh⟩
  | cons i rest ih =>
    intro K e h hh a w hw hf
    subst hw
    simp only [seqVC, stepVC] at hh
    simp only [OpsRun, OpGo]
    split at hh
    · exact hh.elim
    · rename_i o ho
      rw [ho]
      simp only
      split at hh
      case h_2 => exact hh.elim
      case h_1 hb =>
        simp only [Bool.and_eq_true] at hb
        refine ⟨hb.1, ?_⟩
        obtain ⟨e', he, hc⟩ := guardVC_ok hh
        have hf' : Fits N e' a.tmps := hf.congr he
        rcases hc with ⟨hrun, hg⟩ | ⟨hskip, j, want, d, v, hg, hd, hv, hne⟩
        · have hw : Region.wanted o (yielded ops a.tmps) = true := by
            rcases hg with hg | ⟨j, want, d, hg, hd, hv⟩
            · simp [Region.wanted, hg]
            · simp [Region.wanted, hg, yielded_of_fits hf hd hv]
          rw [if_pos hw]
          unfold runVC at hrun
          split at hrun
          case h_2 => exact hrun.elim
          case h_1 hha =>
            have hev : execOp a.eval o = execOp e'.ev o := hasAll_exec (fun x hx => has_eval hf' (List.all_eq_true.1 hha x (by simpa using hx))) (opVC_noSelect hrun)
            rw [hev]
            refine (opVC_goes hrun w rfl).mono fun v w' hl => ⟨hl.1, hl.2.1, ?_⟩
            exact ih K _ _ hl.2.2.2 (a.put o.dst v) w' rfl (hf'.put hb.2 v)
        · have hw : ¬ Region.wanted o (yielded ops a.tmps) = true := by
            simp only [Region.wanted, hg]
            rw [yielded_of_fits hf hd hv]
            intro hc
            cases v <;> simp at hc
            subst hc; exact hne rfl
          rw [if_neg hw]
          exact ih K _ _ hskip (a.put o.dst undef) w rfl (hf'.put hb.2 undef)

end seq
end Go.Sx
