/-
  A code: its predicate over typed variables and the heap, and that the machine keeps it. Nothing here names a program.
-/
import Derived.Test.YtchedlkmgahicaaSx8
set_option linter.unusedVariables false
set_option linter.unusedSimpArgs false
namespace Go.Sx
open Go

def isCells (h : Heap) (b : Nat) : Prop := (∃ c t f, h[b]? = some (.cells c t f)) ∨ ∃ es k, h[b]? = some (.map es k)
theorem isCells.of_eq {h h' : Heap} {b b' : Nat} (hc : isCells h b) (e : h'[b']? = h[b]?) : isCells h' b' := hc.imp (fun ⟨c, t, f, x⟩ => ⟨c, t, f, e.trans x⟩) (fun ⟨es, k, x⟩ => ⟨es, k, e.trans x⟩)
theorem isCells.ne_loop {h : Heap} {b : Nat} (hc : isCells h b) {r : Loop} : h[b]? ≠ some (.loop r) := by
  rcases hc with ⟨c, t, f, x⟩ | ⟨es, k, x⟩ <;> rw [x] <;> simp
theorem isCells.ne_deferred {h : Heap} {b : Nat} (hc : isCells h b) {ds : Option (List Deferred)} : h[b]? ≠ some (.deferred ds) := by
  rcases hc with ⟨c, t, f, x⟩ | ⟨es, k, x⟩ <;> rw [x] <;> simp
theorem isCells.lt {h : Heap} {b : Nat} (hc : isCells h b) : b < h.size := by
  rcases hc with ⟨c, t, f, x⟩ | ⟨es, k, x⟩ <;> exact (Array.getElem?_eq_some_iff.1 x).1
def Ext (S : List Nat) (h h' : Heap) : Prop := h.size ≤ h'.size ∧ ∀ b, b < h.size → b ∉ S → h'[b]? = h[b]?
def ExtC (S : List Nat) (h h' : Heap) : Prop := h.size ≤ h'.size ∧ ∀ b, b < h.size → b ∉ S → isCells h b → h'[b]? = h[b]?
def Foot (B B' : List Nat) (h : Heap) : Prop := ∀ b ∈ B', b ∈ B ∨ h.size ≤ b
def FootIn (B B' : List Nat) (h h2 : Heap) : Prop := Foot B B' h ∧ ∀ b ∈ B', b ∈ B ∨ b < h2.size
def OffL (n : Nat) (B : List Nat) (h h' : Heap) : Prop := h'.size = h.size ∧ ∃ l, n ≤ l ∧ l ∉ B ∧ ¬ isCells h l ∧ ¬ isCells h' l ∧ ∀ b, b ≠ l → h'[b]? = h[b]?
def NewL (h h1 : Heap) : Prop := Ext [] h h1 ∧ ∀ b, h.size ≤ b → ¬ isCells h1 b

def IterG (P : Program) (τ : Ty) (fv : Value) (h : Heap) (Nx : List τ.T → τ.T → Heap → List Nat → Prop) (Fin : List τ.T → Prop) (F M : List Nat) : Prop :=
  ∀ (A : List τ.T → List Nat → HP) (D : List Nat → HP) (B0 : List Nat),
    (∀ b ∈ B0, b < h.size ∧ b ∉ F ∧ b ∉ M) →
    (∀ pre B h1 h2 T, A pre B h1 → Ext T h1 h2 → (∀ t ∈ T, t ∉ B ∧ (h.size ≤ t ∨ t ∈ M)) → A pre B h2) →
    (∀ B h1 h2 T, D B h1 → Ext T h1 h2 → (∀ t ∈ T, t ∉ B ∧ (h.size ≤ t ∨ t ∈ M)) → D B h2) →
    ∀ yl : Value, leafB yl = true →
      (∀ pre x B h1 N, Nx pre x h1 N → (∀ b ∈ N, h.size ≤ b ∧ b < h1.size ∧ b ∉ B) → A pre B h1 → CallV P yl (τ.vals x).toArray h1 fun v h2 =>
        ∃ B', FootIn (N ++ B) B' h1 h2 ∧ ExtC (N ++ B) h1 h2 ∧ ((v = .bool true ∧ A (pre ++ [x]) B' h2) ∨ (v = .bool false ∧ D B' h2))) →
      A [] B0 h →
      CallV P fv #[yl] h fun _ h2 => ∃ B', (∃ pre, Fin pre ∧ A pre B' h2) ∨ D B' h2
abbrev IterSpec (P : Program) (τ : Ty) (fv : Value) (h : Heap) (Nx : List τ.T → τ.T → Prop) (Fin : List τ.T → Prop) (F M : List Nat) : Prop :=
  IterG P τ fv h (fun pre x _ N => Nx pre x ∧ N = []) Fin F M

def AllK (D : Ex → List Nat → HP) : List Nat → List HP → Prop
  | id :: r, K :: Ks => (∀ B h, D (.exit id) B h → K h) ∧ AllK D r Ks
  | _, _ => True

def RangeVC (P : Program) (τ : Ty) (fv : Value) (bd : τ.T → (HP → HP) → HP → (Ex → HP) → HP) (Kn Kr : HP) (ids : List Nat) (Ks : List HP) : HP := fun h =>
  ∃ (Nx : List τ.T → τ.T → Heap → List Nat → Prop) (Fin : List τ.T → Prop) (F M : List Nat),
    (∀ m, m ∈ F ∨ m ∈ M → m < h.size) ∧
    (∀ h1, NewL h h1 → IterG P τ fv h1 Nx Fin F M) ∧
    ∃ (A : List τ.T → List Nat → HP) (D : Ex → List Nat → HP) (B0 : List Nat),
      (∀ b ∈ B0, b < h.size ∧ b ∉ F ∧ b ∉ M) ∧
      (∀ pre B h1 h2 T, A pre B h1 → Ext T h1 h2 → (∀ t ∈ T, t ∉ B ∧ (h.size ≤ t ∨ t ∈ M)) → A pre B h2) ∧
      (∀ j B h1 h2 T, D j B h1 → Ext T h1 h2 → (∀ t ∈ T, t ∉ B ∧ (h.size ≤ t ∨ t ∈ M)) → D j B h2) ∧
      A [] B0 h ∧
      (∀ pre x B h' N, Nx pre x h' N → (∀ b ∈ N, h.size ≤ b ∧ b < h'.size ∧ b ∉ B) → A pre B h' → bd x (fun G h1 => ∀ hb, OffL h.size (N ++ B) h1 hb → G hb)
        (fun h2 => ∃ B', FootIn (N ++ B) B' h' h2 ∧ ExtC (N ++ B) h' h2 ∧ A (pre ++ [x]) B' h2) (fun j h2 => ∃ B', FootIn (N ++ B) B' h' h2 ∧ ExtC (N ++ B) h' h2 ∧ D j B' h2) h') ∧
      (∀ pre B h', Fin pre → A pre B h' → Kn h') ∧
      (∀ B h', D .ret B h' → Kr h') ∧ AllK D ids Ks

def keepE (nv : Nat) : Env → List Nat → Env
  | [], _ => []
  | (k, v) :: r, seen =>
    match Nat.blt k nv && !memN seen k with
    | true => (k, v) :: keepE nv r (k :: seen)
    | false => keepE nv r seen

def pk1 : Value → (t : Ty) × t.T
  | .int k n => ⟨.int k, n⟩
  | .bool b => ⟨.bool, b⟩
  | .pointer p => ⟨.ptr, p⟩
  | .slice a l c => ⟨.sl, ⟨a, l, c⟩⟩
  | .string s => ⟨.str, s⟩
  | v => ⟨.val, v⟩
def pkL (f : Value → (t : Ty) × t.T) : List Value → (t : Ty) × t.T
  | [] => ⟨.nil, ()⟩
  | v :: r => ⟨.cons (f v).1 (pkL f r).1, ((f v).2, (pkL f r).2)⟩
def pk : Value → (t : Ty) × t.T
  | .agg cs => ⟨.agg (pkL pk1 cs.toList).1, (pkL pk1 cs.toList).2⟩
  | v => pk1 v

theorem pk1_enc (v : Value) : (pk1 v).1.enc (pk1 v).2 = v := by cases v <;> rfl
theorem pkL_vals {f : Value → (t : Ty) × t.T} (hf : ∀ v, (f v).1.enc (f v).2 = v) : ∀ l : List Value, (pkL f l).1.vals (pkL f l).2 = l
  | [] => rfl
  | v :: r => by
    show ((f v).1.ev (f v).2).1 :: ((pkL f r).1.ev (pkL f r).2).2 = v :: r
    have h1 : ((f v).1.ev (f v).2).1 = v := hf v
    have h2 : ((pkL f r).1.ev (pkL f r).2).2 = r := pkL_vals hf r
    rw [h1, h2]
theorem pk_enc (v : Value) : (pk v).1.enc (pk v).2 = v := by
  cases v with
  | agg cs =>
    show Value.agg ((pkL pk1 cs.toList).1.ev (pkL pk1 cs.toList).2).2.toArray = _
    have : ((pkL pk1 cs.toList).1.ev (pkL pk1 cs.toList).2).2 = cs.toList := pkL_vals pk1_enc _
    rw [this]
  | _ => rfl

def getL (e : Env) : List Nat → Option (List Value)
  | [] => some []
  | k :: r => (match e.find k, getL e r with | some v, some vs => some (v :: vs) | _, _ => none)

def mkE (keys : List Nat) (vs : List Value) (ct : Env) : Env := keys.zip vs ++ ct

def stE (nv : Nat) (as : List Nat) (e : Env) : Env := (keepE nv e []).filter (fun p => memN as p.1)
def ctE (nv : Nat) (as : List Nat) (e : Env) : Env := (keepE nv e []).filter (fun p => !memN as p.1)
def keysE (nv : Nat) (as : List Nat) (e : Env) : List Nat := (stE nv as e).map (·.1)
def pkE (nv : Nat) (as : List Nat) (e : Env) : (t : Ty) × t.T := pkL pk ((stE nv as e).map (·.2))

def meet (τ : Ty) (keys : List Nat) (X : τ.T → HP) (e : Env) (h : Heap) : Prop :=
  match getL e keys with
  | some vs => (unp τ).2 vs X h
  | none => False

def joinVC (nv : Nat) (as : List Nat) (K : Env → HP) (body : (Env → HP) → HP) (e : Env) (h : Heap) : Prop :=
  ∀ J : (pkE nv as e).1.T → HP, (∀ x h', K (mkE (keysE nv as e) ((pkE nv as e).1.vals x) (ctE nv as e)) h' → J x h') → body (meet (pkE nv as e).1 (keysE nv as e) J) h

def loopVC (nv : Nat) (as : List Nat) (body : (Env → HP) → Env → HP) (e : Env) (h : Heap) : Prop :=
  ∀ X : (pkE nv as e).1.T → HP, (∀ x h', body (meet (pkE nv as e).1 (keysE nv as e) X) (mkE (keysE nv as e) ((pkE nv as e).1.vals x) (ctE nv as e)) h' → X x h') → X (pkE nv as e).2 h

def canN : Code → Bool
  | .skip | .region .. | .label _ | .rangeFunc .. => true
  | .seq a b => canN a && canN b
  | .cond _ a b => canN a || canN b
  | .block id c => canN c || hasX id c
  | .scope c => canN c
  | _ => false
where
  hasX (id : Nat) : Code → Bool
    | .seq a b | .cond _ a b | .rangeFunc _ _ a b => hasX id a || hasX id b
    | .block _ c | .loop c | .scope c => hasX id c
    | .exit i => Nat.beq i id
    | _ => false

def cntX (id : Nat) : Code → Nat
  | .seq a b | .cond _ a b | .rangeFunc _ _ a b => cntX id a + cntX id b
  | .block _ c | .loop c | .scope c => cntX id c
  | .exit i => (match Nat.beq i id with | true => 1 | false => 0)
  | _ => 0

def hasGd : Code → Bool
  | .region _ ops _ => ops.toList.any (fun o => o.guard.isSome)
  | .seq a b => hasGd a || hasGd b
  | _ => false

def cntG (id : Nat) : Code → Nat
  | .seq a b => cntG id a + (match hasGd a with | true => 2 * cntG id b | false => cntG id b)
  | .cond _ a b | .rangeFunc _ _ a b => cntG id a + cntG id b
  | .block _ c | .loop c | .scope c => cntG id c
  | .exit i => (match Nat.beq i id with | true => 1 | false => 0)
  | _ => 0

def pickS : List (Nat × Ty) → Bool
  | (k, .bool) :: _ => Nat.beq k 1000000
  | _ => false

def cntS (rt : List (Nat × Ty)) (id : Nat) (c : Code) : Nat :=
  match rt with
  | [] => cntX id c
  | (k, _) :: _ => (match Nat.beq k 1000000 && !pickS rt with | true => cntG id c | false => cntX id c)

def thenE (K : Env → HP) (Q : Ex → Env → HP) : Ex → Env → HP
  | .normal => K
  | .exit id => Q (.exit id)
  | .ret => Q .ret

def blockE (id : Nat) (K : Env → HP) (Q : Ex → Env → HP) : Ex → Env → HP
  | .normal => K
  | .exit id' => (match Nat.beq id' id with | true => K | false => Q (.exit id'))
  | .ret => Q .ret

def escX : Code → List Nat
  | .seq a b | .cond _ a b => escX b ++ (escX a).filter (fun i => !memN (escX b) i)
  | .rangeFunc _ _ _ b => escX b
  | .block id c => (escX c).filter (fun i => !Nat.beq i id)
  | .loop c | .scope c => escX c
  | .exit i => [i]
  | _ => []

def roundE (ids : List Nat) (next : HP) (jump : Ex → HP) : Ex → Env → HP
  | .normal => fun _ => next
  | .exit id => (match memN ids id with | true => fun _ => jump (.exit id) | false => fun _ _ => False)
  | .ret => fun _ => jump .ret

def rtOf : List (Nat × Ty) → Nat → Ty
  | [], _ => .val
  | (k, t) :: r, p => (match Nat.beq k p with | true => t | false => rtOf r p)

def rtTy (rt : List (Nat × Ty)) (params : Array Tmp) : Ty :=
  match params.toList with
  | [] => .nil
  | p :: _ => rtOf rt p

def putAll : List Nat → List Value → Env → Env
  | p :: ps, v :: vs, e => putAll ps vs ((p, v) :: e)
  | _, _, e => e

def vc (P : Program) (rt : List (Nat × Ty)) (nv N : Nat) : Code → (Ex → Env → HP) → Env → HP
  | .skip, Q => Q .normal
  | .label _, Q => Q .normal
  | .exit id, Q => Q (.exit id)
  | .ret, Q => Q .ret
  | .scope c, Q => vc P rt nv N c Q
  | .region _ ops draw, Q =>
    (match draw with
     | false => (match pickS rt with
        | true => seqJ P ops N (ops.size + 1) (List.range ops.size) (Q .normal)
        | false => seqVC P ops N (List.range ops.size) (Q .normal))
     | true => (match regOk ops (bsOf ops) with
        | true => expVC P ops N (bsOf ops) (ops.size + 1) [] (Q .normal)
        | false => fun _ _ => False))
  | .seq a b, Q => vc P rt nv N a (thenE (vc P rt nv N b Q) Q)
  | .cond c a b, Q => fun e h =>
    match e.ev c with
    | .bool t =>
      (match canN a && canN b with
       | false => brB t (vc P rt nv N a Q e) (vc P rt nv N b Q e) h
       | true => joinVC nv (asg a ++ asg b) (Q .normal) (fun J => brB t (vc P rt nv N a (thenE J Q) e) (vc P rt nv N b (thenE J Q) e)) e h)
    | _ => False
  | .block id c, Q => fun e h =>
    (match Nat.ble (cntS rt id c + (match canN c with | true => 1 | false => 0)) 1 with
     | true => vc P rt nv N c (blockE id (Q .normal) Q) e h
     | false => joinVC nv (asg c) (Q .normal) (fun J => vc P rt nv N c (blockE id J Q) e) e h)
  | .loop c, Q => fun e h => loopVC nv (asg c) (fun X e1 => vc P rt nv N c (thenE X Q) e1) e h
  | .rangeFunc f params assign body, Q => fun e h =>
    (match plainC assign && (Nat.beq (tyLen (rtTy rt params)) params.size) && e.has f && params.toList.all (Nat.blt · N) with
     | true => RangeVC P (rtTy rt params) (e.ev f)
        (fun x wrap next jump => vc P rt nv N assign (thenE (fun e1 => wrap (vc P rt nv N body (roundE (escX body) next jump) e1)) (fun _ _ _ => False)) (putAll params.toList ((rtTy rt params).vals x) e))
        (Q .normal e) (Q .ret e) (escX body) ((escX body).map fun id => Q (.exit id) e) h
     | false => False)
  | .goto _, _ => fun _ _ => False
  | .refuse _, _ => fun _ _ => False

section sound
variable {P : Program} {rt : List (Nat × Ty)} {nv N : Nat}

def liftQ (N : Nat) (Q : Ex → Env → HP) : Ex → Act → World → Prop := fun x a w => ∃ e, Fits N e a.tmps ∧ Q x e w.heap

theorem keepE_find : ∀ (e : Env) (seen : List Nat) (t : Nat) (v : Value), (t, v) ∈ keepE nv e seen → t ∉ seen ∧ e.find t = some v
  | [], seen, t, v, h => by cases h
  | (k, u) :: r, seen, t, v, h => by
    simp only [keepE] at h
    split at h
    · rename_i hb
      simp only [Bool.and_eq_true, Bool.not_eq_true'] at hb
      have hns : k ∉ seen := fun hm => by rw [(memN_iff _ _).2 hm] at hb; exact absurd hb.2 (by simp)
      rcases List.mem_cons.1 h with h | h
      · cases h; exact ⟨hns, by simp [Env.find]⟩
      · obtain ⟨h1, h2⟩ := keepE_find r (k :: seen) t v h
        have hne : k ≠ t := fun e => h1 (by simp [e])
        refine ⟨fun hm => h1 (by simp [hm]), ?_⟩
        have hb : Nat.beq k t = false := by
          cases hh : Nat.beq k t with
          | false => rfl
          | true => exact absurd (Nat.eq_of_beq_eq_true hh) hne
        simp [Env.find, hb, h2]
    · rename_i hb
      obtain ⟨h1, h2⟩ := keepE_find r seen t v h
      refine ⟨h1, ?_⟩
      by_cases hkt : k = t
      · subst hkt
        -- k is not kept: it is no named variable, or it was seen; but it is in what is kept behind
        exfalso
        have hk : ∀ (e : Env) (seen : List Nat) (t : Nat) (v : Value), (t, v) ∈ keepE nv e seen → Nat.blt t nv = true := by
          intro e
          induction e with
          | nil => intro seen t v h; cases h
          | cons p r ih =>
            obtain ⟨k, u⟩ := p
            intro seen t v h
            simp only [keepE] at h
            split at h
            · rename_i hb
              simp only [Bool.and_eq_true] at hb
              rcases List.mem_cons.1 h with h | h
              · cases h; exact hb.1
              · exact ih _ _ _ h
            · exact ih _ _ _ h
        have hlt := hk r seen k v h
        have hns : memN seen k = false := by
          cases hm : memN seen k with
          | false => rfl
          | true => exact absurd ((memN_iff _ _).1 hm) h1
        rw [hlt, hns] at hb
        exact absurd hb (by simp)
      · have hb : Nat.beq k t = false := by
          cases hh : Nat.beq k t with
          | false => rfl
          | true => exact absurd (Nat.eq_of_beq_eq_true hh) hkt
        simp [Env.find, hb, h2]

theorem find_mem : ∀ (e : Env) (t : Nat) (v : Value), e.find t = some v → (t, v) ∈ e
  | [], t, v, h => by cases h
  | (k, u) :: r, t, v, h => by
    simp only [Env.find] at h
    cases hb : Nat.beq k t with
    | true =>
      rw [hb] at h; simp at h; subst h
      rw [Nat.eq_of_beq_eq_true hb]; simp
    | false => rw [hb] at h; exact List.mem_cons_of_mem _ (find_mem r t v h)

theorem find_append (e1 e2 : Env) (t : Nat) (v : Value) (h : Env.find (e1 ++ e2) t = some v) : e1.find t = some v ∨ e2.find t = some v := by
  induction e1 with
  | nil => exact .inr h
  | cons p r ih =>
    obtain ⟨k, u⟩ := p
    simp only [List.cons_append, Env.find] at h ⊢
    cases hb : Nat.beq k t with
    | true => rw [hb] at h; exact .inl h
    | false => rw [hb] at h; exact ih h

theorem getL_find : ∀ (keys : List Nat) (e : Env) (vs : List Value), getL e keys = some vs → ∀ t v, Env.find (keys.zip vs) t = some v → e.find t = some v
  | [], e, vs, h, t, v, hf => by simp [Env.find] at hf
  | k :: r, e, vs, h, t, v, hf => by
    simp only [getL] at h
    split at h
    · rename_i u us hu hus
      cases h
      simp only [List.zip_cons_cons, Env.find] at hf
      cases hb : Nat.beq k t with
      | true =>
        rw [hb] at hf; simp at hf; subst hf
        rw [← Nat.eq_of_beq_eq_true hb]; exact hu
      | false => rw [hb] at hf; exact getL_find r e us hus t v hf
    · cases h

theorem meet_ok {c : Code} {as : List Nat} {e e' : Env} {a a' : Act} {X : (pkE nv as e).1.T → HP} {h : Heap} (hf : Fits N e a.tmps) (hf' : Fits N e' a'.tmps) (hst : ∀ t, t ∉ as → a'.tmps[t]? = a.tmps[t]?)
    (hm : meet (pkE nv as e).1 (keysE nv as e) X e' h) : ∃ x, X x h ∧ Fits N (mkE (keysE nv as e) ((pkE nv as e).1.vals x) (ctE nv as e)) a'.tmps := by
  unfold meet at hm
  split at hm
  · rename_i vs hvs
    obtain ⟨x, hX, ev⟩ := (unp_sound _).2 _ _ _ hm
    refine ⟨x, hX, hf'.1, fun t v ht => ?_⟩
    rcases find_append _ _ t v ht with h1 | h1
    · rw [← ev] at h1
      exact hf'.2 t v (getL_find _ _ _ hvs t v h1)
    · have hmem := find_mem _ _ _ h1
      obtain ⟨h2, h3⟩ := List.mem_filter.1 hmem
      have hnot : t ∉ as := fun hin => by rw [(memN_iff _ _).2 hin] at h3; cases h3
      rw [hst t hnot]
      exact hf.2 t v (keepE_find e [] t v h2).2
  · exact hm.elim

theorem fits_start {as : List Nat} {e : Env} {tm : Array Value} (hf : Fits N e tm) : Fits N (mkE (keysE nv as e) ((pkE nv as e).1.vals (pkE nv as e).2) (ctE nv as e)) tm := by
  refine ⟨hf.1, fun t v ht => ?_⟩
  have ev : (pkE nv as e).1.vals (pkE nv as e).2 = (stE nv as e).map (·.2) := pkL_vals pk_enc _
  rw [ev] at ht
  have hz : (keysE nv as e).zip ((stE nv as e).map (·.2)) = stE nv as e := by
    unfold keysE
    rw [List.zip_map']; simp
  rcases find_append _ _ t v ht with h1 | h1
  · rw [hz] at h1
    exact hf.2 t v (keepE_find e [] t v (List.mem_filter.1 (find_mem _ _ _ h1)).1).2
  · exact hf.2 t v (keepE_find e [] t v (List.mem_filter.1 (find_mem _ _ _ h1)).1).2

theorem fits_putAll : ∀ (ps : List Nat) (vs : List Value) (e : Env) (tm : Array Value), Fits N e tm → ps.all (Nat.blt · N) = true →
    Fits N (putAll ps vs e) ((ps.zip vs).foldl (fun tmps p => tmps.setIfInBounds p.1 p.2) tm)
  | [], vs, e, tm, hf, _ => by cases vs <;> simpa [putAll] using hf
  | p :: ps, [], e, tm, hf, _ => by simpa [putAll] using hf
  | p :: ps, v :: vs, e, tm, hf, hl => by
    simp only [List.all_cons, Bool.and_eq_true, Nat.blt_eq] at hl
    simp only [putAll, List.zip_cons_cons, List.foldl_cons]
    refine fits_putAll ps vs _ _ ?_ hl.2
    refine ⟨by simp [hf.1], fun t u hu => ?_⟩
    simp only [Env.find] at hu
    by_cases hpt : p = t
    · subst hpt
      simp at hu; subst hu
      simp [Array.getElem?_setIfInBounds, hf.1, hl.1]
    · have hb : Nat.beq p t = false := by
        cases hh : Nat.beq p t with
        | false => rfl
        | true => exact absurd (Nat.eq_of_beq_eq_true hh) hpt
      rw [hb] at hu
      rw [Array.getElem?_setIfInBounds, if_neg hpt]
      exact hf.2 t u hu

theorem ev_eval {e : Env} {a : Act} {x : Operand} {t : Bool} (hf : Fits N e a.tmps) (hx : e.ev x = .bool t) : a.eval x = .bool t := by
  cases x with
  | tmp k =>
    simp only [Env.ev] at hx
    split at hx
    · rename_i v hv
      have := hf.2 k v hv
      simp [Act.eval, Array.getD_eq_getD_getElem?, this, hx]
    · cases hx
  | _ => exact hx

theorem CW.mono_all {n0 : Nat} {ro : Option Nat} {c : Code} {Q Q' : Ex → Act → World → Prop} {a : Act} {w : World} (h : CW P n0 ro c Q a w)
    (hq : ∀ x a' w', (noRF c = true → a'.defers = a.defers) → (plainC c = true → KeepNC w w') → Same w w' → Q x a' w' → Q' x a' w') : CW P n0 ro c Q' a w :=
  fun D b k cs h1 h2 h3 h4 h5 => let ⟨x, a', w', q, m, d, p, t, s, r⟩ := h D b k cs h1 h2 h3 h4 h5; ⟨x, a', w', hq _ _ _ d p s q, m, d, p, t, s, r⟩

theorem noRF_of_plain : ∀ {c : Code}, plainC c = true → noRF c = true := by
  intro c
  induction c with
  | seq a b iha ihb => intro h; simp only [plainC, Bool.and_eq_true] at h; simp only [noRF, Bool.and_eq_true]; exact ⟨iha h.1, ihb h.2⟩
  | _ => first | exact fun _ => rfl | (intro h; simp [plainC] at h)

theorem ext_setOff {h : Heap} {l : Nat} {o : Obj} : Ext [l] h (h.setIfInBounds l o) :=
  ⟨by simp, fun b _ hb => by rw [Array.getElem?_setIfInBounds, if_neg (fun e => hb (by simp [e]))]⟩

theorem Ext.refl (S : List Nat) (h : Heap) : Ext S h h := ⟨Nat.le_refl _, fun _ _ _ => rfl⟩

theorem vc_sound (hm : P.follows .mixedOrders = true) : ∀ (c : Code) (n0 : Nat) (ro : Option Nat) (Q : Ex → Env → HP) (e : Env) (h : Heap), vc P rt nv N c Q e h → ∀ (a : Act) (w : World), w.heap = h → Fits N e a.tmps →
    CW P n0 ro c (liftQ N Q) a w := by
  intro c
  induction c with
  | skip => intro n0 ro Q e h hv a w hw hf; subst hw; exact cw_skip ⟨e, hf, hv⟩
  | label l => intro n0 ro Q e h hv a w hw hf; subst hw; exact cw_label ⟨e, hf, hv⟩
  | exit id => intro n0 ro Q e h hv a w hw hf; subst hw; exact cw_exit ⟨e, hf, hv⟩
  | ret => intro n0 ro Q e h hv a w hw hf; subst hw; exact cw_ret ⟨e, hf, hv⟩
  | goto l => intro n0 ro Q e h hv; exact hv.elim
  | refuse s => intro n0 ro Q e h hv; exact hv.elim
  | scope c ih => intro n0 ro Q e h hv a w hw hf; exact cw_scope (ih n0 ro Q e h hv a w hw hf)
  | region id ops draw =>
    intro n0 ro Q e h hv a w hw hf
    subst hw
    cases draw with
    | false =>
      simp only [vc] at hv
      cases hp : pickS rt with
      | true => rw [hp] at hv; exact cw_region (opsRun_mono (fun _ _ ⟨e', f, k, _⟩ => ⟨e', f, k⟩) _ _ _ (seqJ_sound _ _ _ _ _ hv a w rfl hf))
      | false => rw [hp] at hv; exact cw_region (seqVC_sound _ _ _ _ hv a w rfl hf)
    | true =>
      simp only [vc] at hv
      cases hok : regOk ops (bsOf ops) with
      | false => rw [hok] at hv; exact hv.elim
      | true => rw [hok] at hv; exact cw_region_exp hm hok hf hv
  | seq x y ihx ihy =>
    intro n0 ro Q e h hv a w hw hf
    refine cw_seq ((ihx n0 ro _ e h hv a w hw hf).mono ?_)
    rintro z a' w' ⟨e', hf', hq⟩
    cases z with
    | normal => exact ihy n0 ro Q e' _ hq a' w' rfl hf'
    | exit id => exact ⟨e', hf', hq⟩
    | ret => exact ⟨e', hf', hq⟩
  | cond c x y ihx ihy =>
    intro n0 ro Q e h hv a w hw hf
    simp only [vc] at hv
    split at hv
    · rename_i t ht
      have hev := ev_eval hf ht
      split at hv
      · refine cw_cond hev ?_
        cases t with
        | true => exact ihx n0 ro Q e h hv a w hw hf
        | false => exact ihy n0 ro Q e h hv a w hw hf
      · have hj := hv (fun z h' => Q .normal (mkE (keysE nv (asg x ++ asg y) e) ((pkE nv (asg x ++ asg y) e).1.vals z) (ctE nv (asg x ++ asg y) e)) h') (fun z h' hk => hk)
        refine cw_cond hev ?_
        cases t with
        | true =>
          refine (ihx n0 ro _ e h hj a w hw hf).mono_still ?_
          rintro z a' w' hst ⟨e', hf', hq⟩
          cases z with
          | normal =>
            obtain ⟨v, hX, hff⟩ := meet_ok (c := .skip) hf hf' (fun t ht => hst t (fun hin => ht (List.mem_append.2 (.inl hin)))) hq
            exact ⟨_, hff, hX⟩
          | exit id => exact ⟨e', hf', hq⟩
          | ret => exact ⟨e', hf', hq⟩
        | false =>
          refine (ihy n0 ro _ e h hj a w hw hf).mono_still ?_
          rintro z a' w' hst ⟨e', hf', hq⟩
          cases z with
          | normal =>
            obtain ⟨v, hX, hff⟩ := meet_ok (c := .skip) hf hf' (fun t ht => hst t (fun hin => ht (List.mem_append.2 (.inr hin)))) hq
            exact ⟨_, hff, hX⟩
          | exit id => exact ⟨e', hf', hq⟩
          | ret => exact ⟨e', hf', hq⟩
    · exact hv.elim
  | block id c ih =>
    intro n0 ro Q e h hv a w hw hf
    simp only [vc] at hv
    split at hv
    · refine cw_block ((ih n0 ro _ e h hv a w hw hf).mono ?_)
      rintro z a' w' ⟨e', hf', hq⟩
      cases z with
      | normal => exact ⟨e', hf', hq⟩
      | exit id' =>
        simp only [blockQ, blockE] at hq ⊢
        cases hb : Nat.beq id' id with
        | true => rw [hb] at hq; exact ⟨e', hf', hq⟩
        | false => rw [hb] at hq; exact ⟨e', hf', hq⟩
      | ret => exact ⟨e', hf', hq⟩
    · have hj := hv (fun z h' => Q .normal (mkE (keysE nv (asg c) e) ((pkE nv (asg c) e).1.vals z) (ctE nv (asg c) e)) h') (fun z h' hk => hk)
      refine cw_block ((ih n0 ro _ e h hj a w hw hf).mono_still ?_)
      rintro z a' w' hst ⟨e', hf', hq⟩
      have hjoin : meet (pkE nv (asg c) e).1 (keysE nv (asg c) e) (fun z h' => Q .normal (mkE (keysE nv (asg c) e) ((pkE nv (asg c) e).1.vals z) (ctE nv (asg c) e)) h') e' w'.heap → liftQ N Q .normal a' w' := by
        intro hq
        obtain ⟨v, hX, hff⟩ := meet_ok (c := .skip) hf hf' (fun t ht => hst t ht) hq
        exact ⟨_, hff, hX⟩
      cases z with
      | normal => exact hjoin hq
      | exit id' =>
        simp only [blockQ, blockE] at hq ⊢
        cases hb : Nat.beq id' id with
        | true => rw [hb] at hq; exact hjoin hq
        | false => rw [hb] at hq; exact ⟨e', hf', hq⟩
      | ret => exact ⟨e', hf', hq⟩
  | loop c ih =>
    intro n0 ro Q e h hv a w hw hf
    simp only [vc, loopVC] at hv
    refine cw_loop fun X' hX' => ?_
    have key := hv (fun z h' => ∀ (a' : Act) (w' : World), w'.heap = h' → (∀ t, t ∉ asg c → a'.tmps[t]? = a.tmps[t]?) → Fits N (mkE (keysE nv (asg c) e) ((pkE nv (asg c) e).1.vals z) (ctE nv (asg c) e)) a'.tmps → X' a' w') ?_
    · exact key a w hw (fun _ _ => rfl) (fits_start hf)
    · intro z h' hb a' w' hw' hst hf'
      refine hX' a' w' ((ih n0 ro _ _ h' hb a' w' hw' hf').mono_still ?_)
      rintro y a2 w2 hst2 ⟨e2, hf2, hq⟩
      have hst3 : ∀ t, t ∉ asg c → a2.tmps[t]? = a.tmps[t]? := fun t ht => (hst2 t ht).trans (hst t ht)
      cases y with
      | normal =>
        obtain ⟨v, hX, hff⟩ := meet_ok (c := .skip) hf hf2 hst3 hq
        exact hX a2 w2 rfl hst3 hff
      | exit id => exact ⟨e2, hf2, hq⟩
      | ret => exact ⟨e2, hf2, hq⟩
  | rangeFunc f params assign body iha ihb =>
    intro n0 ro Q e h hv a w hw hf
    subst hw
    simp only [vc] at hv
    split at hv
    case h_2 => exact hv.elim
    case h_1 hcond =>
    simp only [Bool.and_eq_true] at hcond
    obtain ⟨⟨⟨hpl, hlen⟩, hhas⟩, hps⟩ := hcond
    have hlen' := Nat.eq_of_beq_eq_true hlen
    obtain ⟨Nx, Fin, F, M, hFM, hit, A, D, B0, hB0, sA, sD, hA0, hround, hdone, hjr, hjx⟩ := hv
    refine cw_rangeFunc fun fnid d hx l hle hsz hold hnew hloop => ?_
    rw [has_eval hf hhas]
    have hNew : NewL w.heap hx := ⟨⟨by omega, fun b hb _ => hold b hb⟩, fun b hb hc => hc.elim (fun ⟨c, t, f, x⟩ => (hnew b hb).1 c t f x) (fun ⟨es, k, x⟩ => (hnew b hb).2 es k x)⟩
    have hspec := hit hx hNew
    have hjump : ∀ j B h', (j = .ret ∨ ∃ id, j = .exit id ∧ memN (escX body) id = true) → D j B h' → Q j e h' := by
      rintro j B h' (rfl | ⟨id, rfl, hid⟩) hd
      · exact hjr B h' hd
      · have key : ∀ l : List Nat, id ∈ l → AllK D l (l.map fun id => Q (.exit id) e) → Q (.exit id) e h' := by
          intro l
          induction l with
          | nil => intro h; cases h
          | cons k l ih =>
            intro hm hk
            rcases List.mem_cons.1 hm with rfl | hm
            · exact hk.1 B h' hd
            · exact ih hm hk.2
        exact key _ ((memN_iff _ _).1 hid) hjx
    let rec0 : Loop := { state := .ready, pending := none, fn := fnid, tmps := a.tmps, params, assign, body, defers := d }
    have hMl : ∀ t, t ∈ M → t < w.heap.size := fun t ht => hFM t (.inr ht)
    have spec2 := hspec (fun pre B h' => A pre B h' ∧ (∀ b ∈ B, b ≠ l) ∧ h'[l]? = some (.loop rec0))
      (fun B h' => ∃ j, (j = .ret ∨ ∃ id, j = .exit id ∧ memN (escX body) id = true) ∧ D j B h' ∧ (∀ b ∈ B, b ≠ l) ∧ h'[l]? = some (.loop { rec0 with state := .done, pending := jumpOf j }))
      B0 (fun b hb => ⟨by have := (hB0 b hb).1; omega, (hB0 b hb).2⟩) ?sA ?sD (yv l) rfl ?hy ⟨?a0, fun b hb => by have := (hB0 b hb).1; omega, hloop⟩
    case sA =>
      rintro pre B h1 h2 T ⟨ha, hb, hl⟩ hE hT
      have hlT : l ∉ T := fun hin => by
        rcases (hT l hin).2 with h | h
        · omega
        · have := hMl l h; omega
      refine ⟨sA pre B h1 h2 T ha hE fun t ht => ⟨(hT t ht).1, (hT t ht).2.imp (fun h => by omega) id⟩, hb, ?_⟩
      rw [hE.2 l (Array.getElem?_eq_some_iff.1 hl).1 hlT]; exact hl
    case sD =>
      rintro B h1 h2 T ⟨j, hj, ha, hb, hl⟩ hE hT
      have hlT : l ∉ T := fun hin => by
        rcases (hT l hin).2 with h | h
        · omega
        · have := hMl l h; omega
      refine ⟨j, hj, sD j B h1 h2 T ha hE fun t ht => ⟨(hT t ht).1, (hT t ht).2.imp (fun h => by omega) id⟩, hb, ?_⟩
      rw [hE.2 l (Array.getElem?_eq_some_iff.1 hl).1 hlT]; exact hl
    case a0 => exact sA [] B0 w.heap hx [] hA0 hNew.1 (fun t ht => by cases ht)
    case hy =>
      rintro pre x B h1 Nb hnx hNb ⟨ha, hb, hl⟩ w1 hw1
      subst hw1
      have hlt1 : l < w1.heap.size := (Array.getElem?_eq_some_iff.1 hl).1
      refine goes_yield (r := rec0) hl rfl (by simp [vals_length, hlen', rec0]) hpl ?_
      have hv1 := hround pre x B w1.heap Nb hnx (fun b hbN => ⟨by have := (hNb b hbN).1; omega, (hNb b hbN).2⟩) ha
      have hNB : ∀ b ∈ Nb ++ B, b ≠ l := fun b hbB => by
        rcases List.mem_append.1 hbB with h | h
        · have := (hNb b h).1; omega
        · exact hb b h
      have hfits : Fits N (putAll params.toList ((rtTy rt params).vals x) e) ((rec0.params.zip ((rtTy rt params).vals x).toArray).foldl (fun tmps (t, a) => tmps.setIfInBounds t a) rec0.tmps) := by
        have := fits_putAll params.toList ((rtTy rt params).vals x) e a.tmps hf hps
        rw [← Array.foldl_toList, Array.toList_zip]
        simpa [rec0] using this
      refine (iha 0 (some l) _ _ _ hv1 { tmps := _, defers := [] } w1 rfl hfits).mono_all ?_
      rintro z a1 w2 hdf hkn hs2 ⟨e1, hf1, hq⟩
      cases z with
      | exit id => exact hq.elim
      | ret => exact hq.elim
      | normal =>
        refine ⟨rfl, hdf (noRF_of_plain hpl), ?_⟩
        have hl2 : w2.heap[l]? = some (.loop rec0) := hkn hpl l _ hl (by intros; simp)
        have hlt2 : l < w2.heap.size := (Array.getElem?_eq_some_iff.1 hl2).1
        have hb2 := hq (w2.heap.setIfInBounds l (.loop { rec0 with state := .busy })) ⟨by simp, l, hle, fun h => hNB l h rfl, (fun hc => hc.ne_loop hl2),
          (fun hc => hc.ne_loop (r := { rec0 with state := .busy }) (by rw [Array.getElem?_setIfInBounds]; simp [hlt2])), fun b hne => by rw [Array.getElem?_setIfInBounds, if_neg (fun e => hne e.symm)]⟩
        refine (ihb 0 (some l) _ e1 _ hb2 a1 { w2 with heap := w2.heap.setIfInBounds l (.loop { rec0 with state := .busy }) } rfl hf1).mono_all ?_
        rintro y a3 w3 _ _ hs3 ⟨e3, hf3, hq3⟩
        have hsz3 : w1.heap.size ≤ w3.heap.size := by
          have h1 := hs2.size; have h2 := hs3.size
          simp at h2; omega
        have hlt3 : l < w3.heap.size := by omega
        have hset : ∀ o : Obj, (w3.heap.setIfInBounds l o)[l]? = some o := fun o => by rw [Array.getElem?_setIfInBounds]; simp [hlt3]
        have hfoot : ∀ B', Foot (Nb ++ B) B' w1.heap → ∀ b ∈ B', b ≠ l := fun B' hF b hbB => by
          rcases hF b hbB with h | h
          · exact hNB b h
          · omega
        have hext : ∀ o : Obj, ExtC (Nb ++ B) w1.heap w3.heap → ExtC (Nb ++ B) w1.heap (w3.heap.setIfInBounds l o) := fun o hE => ⟨by simpa using hE.1, fun b hbl hbB hc => by
          have hne : b ≠ l := by rintro rfl; exact hc.ne_loop hl
          rw [Array.getElem?_setIfInBounds, if_neg (fun e => hne e.symm)]
          exact hE.2 b hbl hbB hc⟩
        cases y with
        | normal =>
          obtain ⟨B', hF, hE, hA'⟩ := hq3
          refine ⟨B', ⟨hF.1, fun b hb => (hF.2 b hb).imp (fun k => k) (fun k => by simpa using k)⟩, hext _ hE, .inl ⟨rfl, sA _ B' _ _ [l] hA' ext_setOff (fun t ht => ?_), hfoot B' hF.1, ?_⟩⟩
          · simp at ht; subst ht; exact ⟨fun hin => hfoot B' hF.1 _ hin rfl, .inl hle⟩
          · rw [hset]; rfl
        | exit id =>
          obtain ⟨hid, hq3⟩ : memN (escX body) id = true ∧ ∃ B', FootIn (Nb ++ B) B' w1.heap w3.heap ∧ ExtC (Nb ++ B) w1.heap w3.heap ∧ D (.exit id) B' w3.heap := by
            cases hid : memN (escX body) id with
            | true => simp only [roundE, hid] at hq3; exact ⟨rfl, hq3⟩
            | false => simp only [roundE, hid] at hq3
          obtain ⟨B', hF, hE, hD'⟩ := hq3
          refine ⟨B', ⟨hF.1, fun b hb => (hF.2 b hb).imp (fun k => k) (fun k => by simpa using k)⟩, hext _ hE, .inr ⟨rfl, .exit id, .inr ⟨id, rfl, hid⟩, sD _ B' _ _ [l] hD' ext_setOff (fun t ht => ?_), hfoot B' hF.1, ?_⟩⟩
          · simp at ht; subst ht; exact ⟨fun hin => hfoot B' hF.1 _ hin rfl, .inl hle⟩
          · rw [hset]; rfl
        | ret =>
          obtain ⟨B', hF, hE, hD'⟩ := hq3
          refine ⟨B', ⟨hF.1, fun b hb => (hF.2 b hb).imp (fun k => k) (fun k => by simpa using k)⟩, hext _ hE, .inr ⟨rfl, .ret, .inl rfl, sD _ B' _ _ [l] hD' ext_setOff (fun t ht => ?_), hfoot B' hF.1, ?_⟩⟩
          · simp at ht; subst ht; exact ⟨fun hin => hfoot B' hF.1 _ hin rfl, .inl hle⟩
          · rw [hset]; rfl
    refine (spec2 { w with heap := hx } rfl).mono ?_
    rintro v w2 ⟨hs, B', hfin | hjmp⟩
    · obtain ⟨pre, hfp, hA', hb, hl⟩ := hfin
      refine ⟨hs, .normal, .ready, by simp, hl, fun df => ⟨e, hf, hdone pre B' _ hfp (sA pre B' _ _ [l] hA' ext_setOff fun t ht => ?_)⟩⟩
      simp at ht; subst ht; exact ⟨fun hin => hb _ hin rfl, .inl hle⟩
    · obtain ⟨j, hj, hD', hb, hl⟩ := hjmp
      refine ⟨hs, j, .done, by simp, hl, fun df => ⟨e, hf, hjump j B' _ hj (sD j B' _ _ [l] hD' ext_setOff fun t ht => ?_)⟩⟩
      simp at ht; subst ht; exact ⟨fun hin => hb _ hin rfl, .inl hle⟩

end sound
end Go.Sx
