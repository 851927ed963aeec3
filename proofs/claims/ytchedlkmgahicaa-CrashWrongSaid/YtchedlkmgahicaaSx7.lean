/-
  A region, in the order of the text, or in whatever order its edges allow. Nothing here names a program.
-/
import Derived.Test.YtchedlkmgahicaaSx6
set_option linter.unusedVariables false
set_option linter.unusedSimpArgs false
namespace Go.Sx
open Go

def Fits (N : Nat) (e : Env) (tm : Array Value) : Prop := tm.size = N ∧ ∀ (t : Nat) v, e.find t = some v → tm[t]? = some v

def dstOk (N : Nat) (o : Oper) : Bool := match o.dst with | some d => Nat.blt d N | none => true

def preds (o : Oper) : List Nat := (o.after.toList.filter (Region.binds .any ·)).map (·.on)

def memN : List Nat → Nat → Bool
  | [], _ => false
  | j :: r, i => bif Nat.beq j i then true else memN r i

theorem memN_iff : ∀ (l : List Nat) (i : Nat), memN l i = true ↔ i ∈ l
  | [], i => by simp [memN]
  | j :: r, i => by
    simp only [memN]
    by_cases h : j = i
    · subst h; simp
    · have hb : Nat.beq j i = false := by
        cases hh : Nat.beq j i with
        | false => rfl
        | true => exact absurd (Nat.eq_of_beq_eq_true hh) h
      simp [hb, memN_iff r i, Ne.symm h]

def hasAll (e : Env) (o : Oper) : Bool := o.op.operands.toList.all e.has

def guardVC (ops : Array Oper) (e : Env) (o : Oper) (run skip : Env → HP) (h : Heap) : Prop :=
  match o.guard with
  | none => run e h
  | some (j, want) =>
    match (ops[j]?).bind (·.dst) with
    | none => False
    | some d =>
      match e.find d with
      | some (.bool b) =>
        (match want with
         | true => brB b (run ((d, .bool true) :: e)) (skip ((d, .bool false) :: e)) h
         | false => brB b (skip ((d, .bool true) :: e)) (run ((d, .bool false) :: e)) h)
      | some (.tuple _) => skip e h
      | _ => False

def runVC (P : Program) (o : Oper) (K : Value → Env → HP) (e : Env) (h : Heap) : Prop :=
  match hasAll e o with
  | true => opVC P e o (fun v => K v (e.put o.dst v)) h
  | false => False

def stepVC (P : Program) (ops : Array Oper) (N i : Nat) (K : Env → HP) (e : Env) (h : Heap) : Prop :=
  match ops[i]? with
  | none => False
  | some o =>
    match notDefer o && dstOk N o with
    | true => guardVC ops e o (runVC P o (fun _ e' => K e')) (fun e' => K (e'.put o.dst undef)) h
    | false => False

def seqVC (P : Program) (ops : Array Oper) (N : Nat) : List Nat → (Env → HP) → Env → HP
  | [], K => K
  | i :: r, K => stepVC P ops N i (seqVC P ops N r K)

section seq
variable {P : Program} {ops : Array Oper} {N : Nat}

theorem Fits.put {e : Env} {a : Act} {o : Oper} (h : Fits N e a.tmps) (hd : dstOk N o = true) (v : Value) : Fits N (e.put o.dst v) (a.put o.dst v).tmps := by
  unfold dstOk at hd
  cases ho : o.dst with
  | none => simpa [Act.put, Env.put] using h
  | some d =>
    rw [ho] at hd
    have hlt : d < N := by simpa [Nat.blt_eq] using hd
    refine ⟨by simp [Act.put, h.1], fun t u hu => ?_⟩
    rw [Env.find_put] at hu
    simp only [Act.put]
    by_cases ht : d = t
    · subst ht
      simp only [if_true] at hu
      cases hu
      rw [Array.getElem?_setIfInBounds]; simp [h.1, hlt]
    · rw [if_neg (by simpa using ht)] at hu
      rw [Array.getElem?_setIfInBounds, if_neg ht]
      exact h.2 t u hu

theorem Fits.lit {e : Env} {tm : Array Value} {d : Nat} {v : Value} (h : Fits N e tm) (hd : e.find d = some v) : Fits N ((d, v) :: e) tm := by
  refine ⟨h.1, fun t u hu => ?_⟩
  have := Env.find_put e (some d) v t
  simp only [Env.put] at this
  rw [this] at hu
  by_cases ht : d = t
  · subst ht; simp at hu; subst hu; exact h.2 _ _ hd
  · rw [if_neg (by simpa using ht)] at hu; exact h.2 t u hu

theorem has_eval {e : Env} {a : Act} {x : Operand} (h : Fits N e a.tmps) (hx : e.has x = true) : a.eval x = e.ev x := by
  cases x with
  | tmp t =>
    simp only [Env.has] at hx
    split at hx
    · rename_i v hv
      have := h.2 t v hv
      simp [Act.eval, Env.ev, hv, Array.getD_eq_getD_getElem?, this]
    · cases hx
  | _ => rfl

theorem hasAll_exec {e : Env} {a : Act} {o : Oper} (h : ∀ x ∈ o.op.operands, a.eval x = e.ev x) (hs : ∀ cs b, o.op ≠ .select cs b) : execOp a.eval o = execOp e.ev o :=
  execOp_congr o hs h

theorem opVC_noSelect {e : Env} {o : Oper} {K : Value → HP} {h : Heap} (hh : opVC P e o K h) : ∀ cs b, o.op ≠ .select cs b := by
  intro cs b e
  unfold opVC at hh
  rw [e] at hh
  exact hh.elim

theorem yielded_of_fits {e : Env} {a : Act} {j d : Nat} {v : Value} (h : Fits N e a.tmps) (hd : (ops[j]?).bind (·.dst) = some d) (hv : e.find d = some v) :
    yielded ops a.tmps j = match v with | .bool b => some b | _ => none := by
  unfold yielded
  rw [hd]
  simp only [Option.bind_some, h.2 d v hv]
  cases v <;> rfl

theorem guardVC_ok {e : Env} {o : Oper} {run skip : Env → HP} {h : Heap} (hh : guardVC ops e o run skip h) :
    ∃ e' : Env, (∀ t, e'.find t = e.find t) ∧ ((run e' h ∧ (o.guard = none ∨ ∃ j want d, o.guard = some (j, want) ∧ (ops[j]?).bind (·.dst) = some d ∧ e.find d = some (.bool want))) ∨
      (skip e' h ∧ ∃ j want d v, o.guard = some (j, want) ∧ (ops[j]?).bind (·.dst) = some d ∧ e.find d = some v ∧ v ≠ .bool want)) := by
  have same : ∀ (d : Nat) (v : Value), e.find d = some v → ∀ t, Env.find ((d, v) :: e) t = e.find t := by
    intro d v hd t
    have := Env.find_put e (some d) v t
    simp only [Env.put] at this
    rw [this]
    split
    · rename_i ht; cases ht; exact hd.symm
    · rfl
  unfold guardVC at hh
  split at hh
  · rename_i hg; exact ⟨e, fun _ => rfl, .inl ⟨hh, .inl hg⟩⟩
  · rename_i j want hg
    split at hh
    · exact hh.elim
    · rename_i d hd
      split at hh
      · rename_i b hb
        split at hh
        · cases b with
          | true => exact ⟨_, same d _ hb, .inl ⟨hh, .inr ⟨j, true, d, hg, hd, hb⟩⟩⟩
          | false => exact ⟨_, same d _ hb, .inr ⟨hh, j, true, d, _, hg, hd, hb, by simp⟩⟩
        · cases b with
          | true => exact ⟨_, same d _ hb, .inr ⟨hh, j, false, d, _, hg, hd, hb, by simp⟩⟩
          | false => exact ⟨_, same d _ hb, .inl ⟨hh, .inr ⟨j, false, d, hg, hd, hb⟩⟩⟩
      · rename_i vs hb
        exact ⟨e, fun _ => rfl, .inr ⟨hh, j, want, d, _, hg, hd, hb, by simp⟩⟩
      · exact hh.elim

theorem Fits.congr {e e' : Env} {tm : Array Value} (h : Fits N e tm) (he : ∀ t, e'.find t = e.find t) : Fits N e' tm := ⟨h.1, fun t v hv => h.2 t v (by rw [← he]; exact hv)⟩

theorem seqVC_sound : ∀ (l : List Nat) (K : Env → HP) (e : Env) (h : Heap), seqVC P ops N l K e h → ∀ (a : Act) (w : World), w.heap = h → Fits N e a.tmps →
    OpsRun P ops (fun a' w' => ∃ e', Fits N e' a'.tmps ∧ K e' w'.heap) l a w := by
  intro l
  induction l with
  | nil => intro K e h hh a w hw hf; subst hw; exact ⟨e, hf, hh⟩
  | cons i rest ih =>
    intro K e h hh a w hw hf
    subst hw
    simp only [seqVC, stepVC] at hh
    simp only [OpsRun, OpGo]
    split at hh
    · exact hh.elim
    · rename_i o ho
      rw [ho]
      simp only
      split at hh
      case h_2 => exact hh.elim
      case h_1 hb =>
        simp only [Bool.and_eq_true] at hb
        refine ⟨hb.1, ?_⟩
        obtain ⟨e', he, hc⟩ := guardVC_ok hh
        have hf' : Fits N e' a.tmps := hf.congr he
        rcases hc with ⟨hrun, hg⟩ | ⟨hskip, j, want, d, v, hg, hd, hv, hne⟩
        · have hw : Region.wanted o (yielded ops a.tmps) = true := by
            rcases hg with hg | ⟨j, want, d, hg, hd, hv⟩
            · simp [Region.wanted, hg]
            · simp [Region.wanted, hg, yielded_of_fits hf hd hv]
          rw [if_pos hw]
          unfold runVC at hrun
          split at hrun
          case h_2 => exact hrun.elim
          case h_1 hha =>
            have hev : execOp a.eval o = execOp e'.ev o := hasAll_exec (fun x hx => has_eval hf' (List.all_eq_true.1 hha x (by simpa using hx))) (opVC_noSelect hrun)
            rw [hev]
            refine (opVC_goes hrun w rfl).mono fun v w' hl => ⟨hl.1, hl.2.1, ?_⟩
            exact ih K _ _ hl.2.2.2 (a.put o.dst v) w' rfl (hf'.put hb.2 v)
        · have hw : ¬ Region.wanted o (yielded ops a.tmps) = true := by
            simp only [Region.wanted, hg]
            rw [yielded_of_fits hf hd hv]
            intro hc
            cases v <;> simp at hc
            subst hc; exact hne rfl
          rw [if_neg hw]
          exact ih K _ _ hskip (a.put o.dst undef) w rfl (hf'.put hb.2 undef)

end seq

def splitP (ops : Array Oper) (t : Nat) : List Nat → Option (Nat × List Nat × List Nat)
  | [] => none
  | i :: r =>
    match ops[i]? with
    | none => none
    | some o =>
      match o.op, o.dst with
      | .pick (.tmp c) _ _, some d =>
        (match Nat.beq c t with
         | true => some (d, [i], r)
         | false => (match splitP ops t r with | some (d', l1, l2) => some (d', i :: l1, l2) | none => none))
      | _, _ => (match splitP ops t r with | some (d', l1, l2) => some (d', i :: l1, l2) | none => none)

def firstG (ops : Array Oper) (i j : Nat) : Bool := (List.range i).all fun q => match ops[q]? with | some o => (match o.guard with | some (j', _) => !Nat.beq j' j | none => true) | none => true

def groupAt (ops : Array Oper) (e : Env) (i : Nat) (r : List Nat) : Option (Nat × List Nat × List Nat) :=
  match ops[i]? with
  | none => none
  | some o =>
    match o.guard with
    | none => none
    | some (j, _) =>
      match firstG ops i j with
      | false => none
      | true =>
        match (ops[j]?).bind (·.dst) with
        | none => none
        | some t =>
          match e.find t with
          | some (.bool _) => splitP ops t r
          | _ => none

def dstsOf (ops : Array Oper) (l : List Nat) : List Nat := l.filterMap fun i => (ops[i]?).bind (·.dst)
def lessE (ds : List Nat) (e : Env) : Env := e.filter fun p => !memN ds p.1

def pickJ (d : Nat) (J : Bool → HP) (e : Env) (h : Heap) : Prop := match e.find d with | some (.bool x) => J x h | _ => False

def seqJ (P : Program) (ops : Array Oper) (N : Nat) : Nat → List Nat → (Env → HP) → Env → HP
  | 0, _, _ => fun _ _ => False
  | n + 1, l, K => fun e h =>
    match l with
    | [] => K e h
    | i :: r =>
      match groupAt ops e i r with
      | some (d, l1, l2) => ∀ J : Bool → HP, (∀ x h', seqJ P ops N n l2 K ((d, .bool x) :: lessE (dstsOf ops (i :: l1)) e) h' → J x h') → stepVC P ops N i (seqJ P ops N n l1 (pickJ d J)) e h
      | none => stepVC P ops N i (seqJ P ops N n r K) e h

section seqj
variable {P : Program} {ops : Array Oper} {N : Nat}

theorem splitP_app {t : Nat} : ∀ {l : List Nat} {d : Nat} {l1 l2 : List Nat}, splitP ops t l = some (d, l1, l2) → l = l1 ++ l2
  | [], d, l1, l2, h => by cases h
  | i :: r, d, l1, l2, h => by
    simp only [splitP] at h
    split at h
    · cases h
    · split at h
      · split at h
        · simp at h; obtain ⟨_, rfl, rfl⟩ := h; rfl
        · split at h
          · rename_i h2
            simp at h; obtain ⟨rfl, rfl, rfl⟩ := h
            rw [splitP_app h2]; rfl
          · cases h
      · split at h
        · rename_i h2
          simp at h; obtain ⟨rfl, rfl, rfl⟩ := h
          rw [splitP_app h2]; rfl
        · cases h

theorem groupAt_app {e : Env} {i : Nat} {r : List Nat} {d : Nat} {l1 l2 : List Nat} (h : groupAt ops e i r = some (d, l1, l2)) : r = l1 ++ l2 := by
  unfold groupAt at h
  split at h
  · cases h
  · split at h
    · cases h
    · split at h
      · cases h
      · split at h
        · cases h
        · split at h
          · exact splitP_app h
          · cases h

theorem opsRun_append {Q : Act → World → Prop} : ∀ (l1 l2 : List Nat) (a : Act) (w : World), OpsRun P ops (OpsRun P ops Q l2) l1 a w → OpsRun P ops Q (l1 ++ l2) a w
  | [], l2, a, w, h => h
  | i :: r, l2, a, w, h => OpGo.mono h fun a w h => opsRun_append r l2 a w h

theorem opsRun_mono {Q Q' : Act → World → Prop} (hq : ∀ a w, Q a w → Q' a w) : ∀ (l : List Nat) (a : Act) (w : World), OpsRun P ops Q l a w → OpsRun P ops Q' l a w
  | [], a, w, h => hq _ _ h
  | i :: r, a, w, h => OpGo.mono h fun a w h => opsRun_mono hq r a w h

theorem stepVC_go {i : Nat} {K : Env → HP} {e : Env} {h : Heap} (hh : stepVC P ops N i K e h) (a : Act) (w : World) (hw : w.heap = h) (hf : Fits N e a.tmps) :
    OpGo P ops i (fun a' w' => ∃ e', Fits N e' a'.tmps ∧ K e' w'.heap ∧ ∀ t, (ops[i]?).bind (·.dst) ≠ some t → a'.tmps[t]? = a.tmps[t]?) a w := by
  subst hw
  have pt : ∀ (o : Oper) v t, o.dst ≠ some t → (a.put o.dst v).tmps[t]? = a.tmps[t]? := by
    intro o v t ht
    cases hdst : o.dst with
    | none => rfl
    | some d =>
      have hne : d ≠ t := fun e => ht (by rw [hdst, e])
      simp [Act.put, Array.getElem?_setIfInBounds, hne]
  simp only [stepVC] at hh
  simp only [OpGo]
  split at hh
  · exact hh.elim
  · rename_i o ho
    rw [ho]
    simp only [Option.bind_some]
    split at hh
    case h_2 => exact hh.elim
    case h_1 hb =>
      simp only [Bool.and_eq_true] at hb
      refine ⟨hb.1, ?_⟩
      obtain ⟨e', he, hc⟩ := guardVC_ok hh
      have hf' : Fits N e' a.tmps := hf.congr he
      rcases hc with ⟨hrun, hg⟩ | ⟨hskip, j, want, d, v, hg, hd, hv, hne⟩
      · have hw : Region.wanted o (yielded ops a.tmps) = true := by
          rcases hg with hg | ⟨j, want, d, hg, hd, hv⟩
          · simp [Region.wanted, hg]
          · simp [Region.wanted, hg, yielded_of_fits hf hd hv]
        rw [if_pos hw]
        unfold runVC at hrun
        split at hrun
        case h_2 => exact hrun.elim
        case h_1 hha =>
          have hev : execOp a.eval o = execOp e'.ev o := hasAll_exec (fun x hx => has_eval hf' (List.all_eq_true.1 hha x (by simpa using hx))) (opVC_noSelect hrun)
          rw [hev]
          exact (opVC_goes hrun w rfl).mono fun v w' hl => ⟨hl.1, hl.2.1, _, hf'.put hb.2 v, hl.2.2.2, fun t ht => pt o v t ht⟩
      · have hw : ¬ Region.wanted o (yielded ops a.tmps) = true := by
          simp only [Region.wanted, hg]
          rw [yielded_of_fits hf hd hv]
          intro hc
          cases v <;> simp at hc
          subst hc; exact hne rfl
        rw [if_neg hw]
        exact ⟨_, hf'.put hb.2 undef, hskip, fun t ht => pt o undef t ht⟩

theorem seqJ_sound : ∀ (n : Nat) (l : List Nat) (K : Env → HP) (e : Env) (h : Heap), seqJ P ops N n l K e h → ∀ (a : Act) (w : World), w.heap = h → Fits N e a.tmps →
    OpsRun P ops (fun a' w' => ∃ e', Fits N e' a'.tmps ∧ K e' w'.heap ∧ ∀ t, t ∉ dstsOf ops l → a'.tmps[t]? = a.tmps[t]?) l a w := by
  intro n
  induction n with
  | zero => intro l K e h hh; exact hh.elim
  | succ n ih =>
    intro l K e h hh a w hw hf
    cases l with
    | nil => subst hw; exact ⟨e, hf, hh, fun _ _ => rfl⟩
    | cons i r =>
      have hds : ∀ (i : Nat) (l : List Nat) (t : Nat), t ∉ dstsOf ops (i :: l) → (ops[i]?).bind (·.dst) ≠ some t ∧ t ∉ dstsOf ops l := by
        intro i l t ht
        simp only [dstsOf, List.filterMap_cons] at ht
        split at ht
        · rename_i hn; exact ⟨by rw [hn]; simp, ht⟩
        · rename_i d hd
          rw [List.mem_cons, not_or] at ht
          exact ⟨by rw [hd]; simpa using fun e => ht.1 e.symm, ht.2⟩
      simp only [seqJ] at hh
      split at hh
      · rename_i d l1 l2 hg
        have er := groupAt_app hg
        subst er
        let E : Bool → Env := fun x => (d, .bool x) :: lessE (dstsOf ops (i :: l1)) e
        let Z : Act → World → Prop := fun a' w' => ∃ e', Fits N e' a'.tmps ∧ K e' w'.heap ∧ ∀ t, t ∉ dstsOf ops (i :: (l1 ++ l2)) → a'.tmps[t]? = a.tmps[t]?
        have h1 := hh (fun x h' => ∀ (a' : Act) (w' : World), w'.heap = h' → Fits N (E x) a'.tmps → (∀ t, t ∉ dstsOf ops (i :: l1) → a'.tmps[t]? = a.tmps[t]?) → OpsRun P ops Z l2 a' w') (by
          intro x h' hx a' w' hw' hf' hst
          refine opsRun_mono ?_ l2 a' w' (ih l2 K _ h' hx a' w' hw' hf')
          rintro a2 w2 ⟨e2, f2, k2, s2⟩
          refine ⟨e2, f2, k2, fun t ht => ?_⟩
          have happ : dstsOf ops (i :: (l1 ++ l2)) = dstsOf ops (i :: l1) ++ dstsOf ops l2 := by
            rw [← List.cons_append]; exact List.filterMap_append
          rw [happ, List.mem_append, not_or] at ht
          exact (s2 t ht.2).trans (hst t ht.1))
        show OpsRun P ops Z (i :: (l1 ++ l2)) a w
        rw [show i :: (l1 ++ l2) = (i :: l1) ++ l2 from rfl]
        refine opsRun_append _ _ _ _ ?_
        show OpGo P ops i (OpsRun P ops (OpsRun P ops Z l2) l1) a w
        refine OpGo.mono (stepVC_go h1 a w hw hf) ?_
        rintro a1 w1 ⟨e1, f1, k1, s1⟩
        refine opsRun_mono ?_ l1 a1 w1 (ih l1 _ e1 _ k1 a1 w1 rfl f1)
        rintro a2 w2 ⟨e2, f2, k2, s2⟩
        have hst : ∀ t, t ∉ dstsOf ops (i :: l1) → a2.tmps[t]? = a.tmps[t]? := fun t ht => by
          obtain ⟨h1, h2⟩ := hds i l1 t ht
          exact (s2 t h2).trans (s1 t h1)
        unfold pickJ at k2
        split at k2
        · rename_i x hx
          refine k2 a2 w2 rfl ⟨f2.1, fun t v hv => ?_⟩ hst
          simp only [E, Env.find] at hv
          cases hb : Nat.beq d t with
          | true => rw [hb] at hv; simp at hv; subst hv; rw [← Nat.eq_of_beq_eq_true hb]; exact f2.2 _ _ hx
          | false =>
            rw [hb] at hv
            have hl : ∀ (e : Env), Env.find (lessE (dstsOf ops (i :: l1)) e) t = some v → t ∉ dstsOf ops (i :: l1) ∧ e.find t = some v := by
              intro e
              induction e with
              | nil => intro h; cases h
              | cons p e ihe =>
                obtain ⟨k, u⟩ := p
                intro h
                simp only [lessE, List.filter_cons] at h
                cases hm : memN (dstsOf ops (i :: l1)) k with
                | true =>
                  rw [hm] at h
                  obtain ⟨x1, x2⟩ := ihe h
                  refine ⟨x1, ?_⟩
                  have hne : k ≠ t := fun e => x1 (e ▸ (memN_iff _ _).1 hm)
                  have hbn : Nat.beq k t = false := by
                    cases hh : Nat.beq k t with
                    | false => rfl
                    | true => exact absurd (Nat.eq_of_beq_eq_true hh) hne
                  simp [Env.find, hbn, x2]
                | false =>
                  rw [hm] at h
                  simp only [Bool.not_false, if_true, Env.find] at h
                  cases hk : Nat.beq k t with
                  | true =>
                    rw [hk] at h; simp at h; subst h
                    have := Nat.eq_of_beq_eq_true hk
                    subst this
                    refine ⟨fun hin => ?_, by simp [Env.find]⟩
                    rw [(memN_iff _ _).2 hin] at hm; cases hm
                  | false =>
                    rw [hk] at h
                    obtain ⟨x1, x2⟩ := ihe h
                    exact ⟨x1, by simp [Env.find, hk, x2]⟩
            obtain ⟨x1, x2⟩ := hl e hv
            rw [hst t x1]
            exact hf.2 t v x2
        · exact k2.elim
      · show OpGo P ops i (OpsRun P ops _ r) a w
        refine OpGo.mono (stepVC_go hh a w hw hf) ?_
        rintro a1 w1 ⟨e1, f1, k1, s1⟩
        refine opsRun_mono ?_ r a1 w1 (ih r K e1 _ k1 a1 w1 rfl f1)
        rintro a2 w2 ⟨e2, f2, k2, s2⟩
        exact ⟨e2, f2, k2, fun t ht => let ⟨h1, h2⟩ := hds i r t ht; (s2 t h2).trans (s1 t h1)⟩

end seqj
end Go.Sx
