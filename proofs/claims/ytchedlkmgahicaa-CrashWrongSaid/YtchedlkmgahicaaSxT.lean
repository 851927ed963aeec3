/-
  Rows of cells, slices: the assertions, and the words' rules by them. Nothing here names a program.
-/
import Derived.Test.YtchedlkmgahicaaSxS
set_option linter.unusedVariables false
namespace Go.Sx
open Go

def emp : Asn where
  P := fun S h => S = []
  loc := fun e _ _ => e
  cel := fun {S h} e b hb => by subst e; cases hb

def cl (b : Nat) (t : TypeId) (c : List Value) : Asn where
  P := fun S h => S = [b] ∧ Blk h b t c
  loc := fun {S h h'} ⟨e, k⟩ hz hk => ⟨e, by unfold Blk; rw [hk b (by simp [e])]; exact k⟩
  cel := fun {S h} ⟨e, k⟩ b' hb => by subst e; simp at hb; subst hb; exact k.isCells

def rsl {α : Type} (enc : α → Value) (xs : List α) (s : Sl) : Asn where
  P := fun S h => s.len = xs.length ∧ s.len ≤ s.cap ∧ ((xs = [] ∧ S = []) ∨ ∃ a, s.a = some a ∧ S = [a.block] ∧ isCells h a.block ∧ ∀ i, ∀ x, xs[i]? = some x → cell h (a.add i) = some (enc x))
  loc := fun {S h h'} ⟨e1, e2, k⟩ hz hk => ⟨e1, e2, k.imp id fun ⟨a, ea, eS, hc, hx⟩ => by
    have eb := hk a.block (by simp [eS])
    refine ⟨a, ea, eS, ?_, fun i x hi => ?_⟩
    · exact hc.of_eq eb
    · have := hx i x hi
      unfold cell at this ⊢
      have eb2 : (a.add i).block = a.block := by unfold Addr.add; split <;> rfl
      rw [eb2] at this ⊢
      rw [eb]; exact this⟩
  cel := fun {S h} ⟨e1, e2, k⟩ b hb => by
    rcases k with ⟨_, e⟩ | ⟨a, _, e, hc, _⟩
    · subst e; cases hb
    · subst e; simp at hb; subst hb; exact hc

def osl {α : Type} (t : TypeId) (enc : α → Value) (xs : List α) (s : Sl) : Asn where
  P := fun S h => (∃ b rest, S = [b] ∧ s = ⟨some ⟨b, 0, none⟩, xs.length, xs.length + rest.length⟩ ∧ Blk h b t (xs.map enc ++ rest)) ∨ (S = [] ∧ xs = [] ∧ s.len = 0 ∧ s.cap = 0)
  loc := fun {S h h'} k hz hk => k.imp (fun ⟨b, rest, e, es, hb⟩ => ⟨b, rest, e, es, by unfold Blk; rw [hk b (by simp [e])]; exact hb⟩) id
  cel := fun {S h} k b hb => by
    rcases k with ⟨b', rest, e, es, hk⟩ | ⟨e, _⟩
    · subst e; simp at hb; subst hb; exact hk.isCells
    · subst e; cases hb

section rules
variable {fr : Fr} {G As : List Asn} {h h' : Heap} {A : Asn} {b i : Nat} {t : TypeId} {c : List Value}

theorem Hs.blk (st : Hs fr G As h) (k : Nat) (hk : As[k]? = some (cl b t c)) : Blk h b t c := let ⟨_, _, p⟩ := st.own k hk; p
theorem Hs.fblk (st : Hs fr G As h) (k : Nat) (hk : G[k]? = some (cl b t c)) : Blk h b t c := let ⟨_, _, p⟩ := st.fz k hk; p

theorem Hs.ldi (st : Hs fr G As h) (k i : Nat) {κ : IntKind} {n : Int} {K : Int → HP} (hk : As[k]? = some (cl b t c)) (hi : c[i]? = some (.int κ n)) : ldT (.int κ) ⟨b, i, none⟩ K h = K n h := ld_int (st.blk k hk) hi
theorem Hs.ldb (st : Hs fr G As h) (k i : Nat) {n : Bool} {K : Bool → HP} (hk : As[k]? = some (cl b t c)) (hi : c[i]? = some (.bool n)) : ldT .bool ⟨b, i, none⟩ K h = K n h := ld_bool (st.blk k hk) hi
theorem Hs.lds (st : Hs fr G As h) (k i : Nat) {a : Option Addr} {l m : Nat} {K : Sl → HP} (hk : As[k]? = some (cl b t c)) (hi : c[i]? = some (.slice a l m)) : ldT .sl ⟨b, i, none⟩ K h = K ⟨a, l, m⟩ h := ld_sl (st.blk k hk) hi
theorem Hs.ck (st : Hs fr G As h) (k i : Nat) {v : Value} {K : HP} (hk : As[k]? = some (cl b t c)) (hi : c[i]? = some v) : Sx.ck ⟨b, i, none⟩ v K h = K h := ck_ok (st.blk k hk) hi

theorem Hs.set1 (st : Hs fr G As h) (k i : Nat) (hk : As[k]? = some (cl b t c)) (v : Value) : Hs fr G (As.set k (cl b t (c.set i v))) (setC h ⟨b, i, none⟩ v) := by
  obtain ⟨S1, ⟨eS, p⟩, hw⟩ := st.focus k hk
  subst eS
  exact hw (cl b t (c.set i v)) [b] _ ((Ext.refl' [b] h).set _ v (by simp)) ⟨rfl, p.set i v⟩ fun b hb => .inl hb
theorem Hs.st1 (st : Hs fr G As h) (k i : Nat) {v : Value} {K : HP} (hk : As[k]? = some (cl b t c)) (hi : i < c.length) (hK : ∀ h', Hs fr G (As.set k (cl b t (c.set i v))) h' → K h') : Sx.st1 ⟨b, i, none⟩ v K h := by
  rw [st_ok (st.blk k hk) hi]
  exact hK _ (st.set1 k i hk v)

theorem Hs.nw (st : Hs fr G As h) {cs : Array Value} {K : Nat → HP} (hK : ∀ b h', Hs fr G (As ++ [cl b t cs.toList]) h' → K b h') : Sx.nw cs t K h :=
  hK h.size _ (st.new ((Ext.refl' [] h).push _) ⟨[h.size], ⟨rfl, Blk.new h t cs⟩, by simp⟩)

theorem Hs.res {h0 : Heap} (st : Hs fr G As h) (hm : ([], h0) ∈ fr) (k : Nat) (hk : As[k]? = some A) : New h0.size h A := by
  obtain ⟨S, hs, hz, hf⟩ := st
  obtain ⟨S1, S2, hm', hd, hA, hr, _⟩ := hs.focus k hk
  refine ⟨S1, hA, fun b hb => ?_⟩
  rcases (hf _ hm).2 b ((hm' b).2 (.inl hb)) with k | k
  · cases k
  · exact k

theorem rsl_len {α : Type} {enc : α → Value} {xs : List α} {s : Sl} (hA : At h (rsl enc xs s)) : s.len = xs.length := let ⟨_, e, _⟩ := hA; e
theorem rsl_cap {α : Type} {enc : α → Value} {xs : List α} {s : Sl} (hA : At h (rsl enc xs s)) : s.len ≤ s.cap := let ⟨_, _, e, _⟩ := hA; e
theorem rsl_cells {α : Type} {enc : α → Value} {xs : List α} {s : Sl} (hA : At h (rsl enc xs s)) {i : Nat} {x : α} (hi : xs[i]? = some x) : ∃ a, s.a = some a ∧ cell h (a.add i) = some (enc x) := by
  obtain ⟨S, e, _, k⟩ := hA
  rcases k with ⟨e, _⟩ | ⟨a, ea, _, _, hx⟩
  · subst e; simp at hi
  · exact ⟨a, ea, hx i x hi⟩

theorem rd_ok {τ : Ty} {xs : List τ.T} {s : Sl} (hA : At h (rsl τ.enc xs s)) {i : Nat} {x : τ.T} (hi : xs[i]? = some x) {K : τ.T → HP} (hK : K x h) : sx s.a s.len (i : Int) 1 (fun p => ldT τ p K) h := by
  obtain ⟨a, ea, hc⟩ := rsl_cells hA hi
  have hlt : i < xs.length := (List.getElem?_eq_some_iff.1 hi).1
  exact ⟨a, ea, by omega, by rw [rsl_len hA]; omega, x, by simpa using hc, hK⟩

theorem osl_rsl {α : Type} {enc : α → Value} {xs : List α} {s : Sl} {S : List Nat} (p : (osl t enc xs s).P S h) : (rsl enc xs s).P S h := by
  rcases p with ⟨b, rest, e, es, hb⟩ | ⟨e, ex, e1, e2⟩
  · subst es
    refine ⟨rfl, by simp, .inr ⟨⟨b, 0, none⟩, rfl, e, hb.isCells, fun i x hi => ?_⟩⟩
    have hlt : i < xs.length := (List.getElem?_eq_some_iff.1 hi).1
    rw [addr_add, cell_blk hb, List.getElem?_append_left (by simpa using hlt)]
    simp [hi]
  · exact ⟨by simp [ex, e1], by omega, .inl ⟨ex, e⟩⟩
theorem At.rsl {α : Type} {enc : α → Value} {xs : List α} {s : Sl} (hA : At h (osl t enc xs s)) : At h (rsl enc xs s) := let ⟨S, p⟩ := hA; ⟨S, osl_rsl p⟩
theorem osl_len {α : Type} {enc : α → Value} {xs : List α} {s : Sl} (hA : At h (osl t enc xs s)) : s.len = xs.length := rsl_len hA.rsl

theorem osl_nil {α : Type} {enc : α → Value} {a : Option Addr} (n : Nat) (h : Heap) : New n h (osl t enc ([] : List α) ⟨a, 0, 0⟩) := ⟨[], .inr ⟨rfl, rfl, rfl, rfl⟩, by simp⟩
theorem Hs.nil {α : Type} (st : Hs fr G As h) (t : TypeId) (enc : α → Value) (a : Option Addr) : Hs fr G (As ++ [osl t enc ([] : List α) ⟨a, 0, 0⟩]) h := st.new (Ext.refl' _ _) (osl_nil _ _)
theorem Hs.asSl {α : Type} (st : Hs fr G As h) (k : Nat) (enc : α → Value) (xs : List α) (hk : As[k]? = some (cl b t c)) (hc : c = xs.map enc) : Hs fr G (As.set k (osl t enc xs ⟨some ⟨b, 0, none⟩, xs.length, xs.length⟩)) h :=
  st.imp k hk fun S h ⟨e, hb⟩ => .inl ⟨b, [], e, rfl, by simpa [← hc] using hb⟩

theorem CellsAt_blk' {b i : Nat} {t : TypeId} : ∀ (vs : List Value) {c : List Value} (hb : Blk h b t c) (off : Nat), (∀ j, j < vs.length → c[i + off + j]? = vs[j]?) → CellsAt h ⟨b, i, none⟩ off vs
  | [], c, hb, off, hc => trivial
  | v :: vs, c, hb, off, hc => by
    refine ⟨?_, CellsAt_blk' vs hb (off + 1) fun j hj => ?_⟩
    · rw [addr_add, cell_blk hb]
      have := hc 0 (by simp)
      simpa using this
    · have := hc (j + 1) (by simp; omega)
      simp at this
      rw [← this]; congr 1; omega

theorem Hs.apd {α : Type} {enc : α → Value} {xs : List α} {s : Sl} {v : α} {by_ : Nat} {z : Array Value} {K : Sl → HP} (st : Hs fr G As h) (k kx : Nat) (hk : As[k]? = some (osl t enc xs s)) (hkx : As[kx]? = some (cl b t [enc v])) (hne : k ≠ kx)
    (hv : leafB (enc v) = true) (hlen : (xs.length + 1) * by_ ≤ 140737488355328) (hby : 0 < by_) (hz : z.size = 1)
    (hK : ∀ s' h', Hs fr G (As.set k (osl t enc (xs ++ [v]) s')) h' → K s' h') : Sx.apd t 1 by_ z s ⟨some ⟨b, 0, none⟩, 1, 1⟩ K h := by
  have hx := st.blk kx hkx
  have hl := osl_len (st.own k hk)
  obtain ⟨S1, p, hw⟩ := st.focus k hk
  refine ⟨[enc v], ⟨rfl, CellsAt_blk' _ hx 0 (by intro j hj; simp at hj; subst hj; rfl)⟩, fun hle => ?_, fun hgt => ?_⟩
  · rcases p with ⟨b', rest, eS, es, hb⟩ | ⟨_, _, e1, e2⟩
    · subst es
      simp only at hle hl ⊢
      simp only [stA, hv, Nat.mul_one, addr_add, Nat.zero_add, Nat.add_zero]
      have hlr : 0 < rest.length := by omega
      rw [st_ok hb (by simp; omega)]
      refine hK _ _ (hw (osl t enc (xs ++ [v]) ⟨some ⟨b', 0, none⟩, xs.length + 1, xs.length + rest.length⟩) [b'] _ ((Ext.refl' S1 h).set _ _ (by simp [eS])) (.inl ⟨b', rest.tail, rfl, ?_, ?_⟩) (by simp [eS]))
      · simp; omega
      · have := hb.set xs.length (enc v)
        have e : (List.map enc xs ++ rest).set xs.length (enc v) = List.map enc (xs ++ [v]) ++ rest.tail := by
          cases rest with
          | nil => simp at hlr
          | cons r rest => simp
        rw [e] at this; exact this
    · exfalso; simp only [e1, e2] at hle; omega
  · simp only [hl] at hgt ⊢
    refine ⟨hlen, hby, ?_⟩
    have key : ∃ olds, FirstCells h s.a (xs.length * 1) olds ∧ olds = xs.map enc := by
      rcases p with ⟨b', rest, eS, es, hb⟩ | ⟨_, ex, e1, e2⟩
      · subst es
        exact ⟨xs.map enc, ⟨by simp, CellsAt_blk' _ hb 0 (by intro j hj; simp at hj ⊢; rw [List.getElem?_append_left (by simpa using hj)]; simp)⟩, rfl⟩
      · subst ex
        refine ⟨[], ?_, rfl⟩
        cases s.a with
        | none => rfl
        | some a => exact ⟨rfl, trivial⟩
    obtain ⟨olds, hf, eo⟩ := key
    subst eo
    refine ⟨_, hf, fun nc h1 h2 => ?_⟩
    refine hK _ _ (hw (osl t enc (xs ++ [v]) ⟨some ⟨h.size, 0, none⟩, xs.length + 1, nc⟩) [h.size] _ ((Ext.refl' S1 h).push _) (.inl ⟨h.size, (Builtin.zeroCells z (nc - (xs.length + 1))).toList, rfl, ?_, ?_⟩) (by simp))
    · have h1' : xs.length + 1 ≤ nc := by simpa [hl] using h1

      simp [Builtin.zeroCells, hz]
      omega
    · have := Blk.new h t (((xs.map enc).toArray ++ #[enc v]) ++ Builtin.zeroCells z (nc - (xs.length + 1)))
      simpa using this

theorem Hs.rangeG {P : Program} {τ : Ty} {fv : Value} {bd : τ.T → (HP → HP) → HP → (Ex → HP) → HP} {bd' : τ.T → HP → (Ex → HP) → HP} {Kn Kr : HP} {ids : List Nat} {Ks : List HP}
    (st : Hs fr G As h) (Nx : List τ.T → τ.T → Prop) (Gf : List τ.T → τ.T → Asn) (Fin : List τ.T → Prop)
    (hit : ∀ S, FzOk G S h → FrOk fr S h → ∃ F, (∀ b ∈ F, b < h.size ∧ b ∉ S) ∧ ∀ h1, NewL h h1 → IterG P τ fv h1 (fun pre x h2 N => Nx pre x ∧ (Gf pre x).P N h2) Fin F [])
    (hbd : ∀ x w n j, bd x w n j = w (bd' x n j))
    (Inv : List τ.T → List Asn → Prop) (Dv : Ex → List Asn → Prop) (h0 : Inv [] As)
    (body : ∀ pre x Bs B hb, Nx pre x → Inv pre Bs → Hs ((B, hb) :: fr) G (Bs ++ [Gf pre x]) hb →
      ∀ (next : HP) (jump : Ex → HP), (∀ Bs' h2, Inv (pre ++ [x]) Bs' → Hs ((B, hb) :: fr) G Bs' h2 → next h2) → (∀ j Bs' h2, Dv j Bs' → Hs ((B, hb) :: fr) G Bs' h2 → jump j h2) → bd' x next jump hb)
    (fin : ∀ pre Bs h', Fin pre → Inv pre Bs → Hs fr G Bs h' → Kn h') (ret : ∀ Bs h', Dv .ret Bs → Hs fr G Bs h' → Kr h')
    (exs : ∀ (i id : Nat) (K : HP), ids[i]? = some id → Ks[i]? = some K → ∀ Bs h', Dv (.exit id) Bs → Hs fr G Bs h' → K h') : RangeVC P τ fv bd Kn Kr ids Ks h := by
  obtain ⟨S, hs, hz, hf⟩ := st
  obtain ⟨F, hF, hit⟩ := hit S hz hf
  have hFlt : ∀ b ∈ F, b < h.size := fun b hb => (hF b hb).1
  have hFS' : ∀ b ∈ F, b ∉ S := fun b hb => (hF b hb).2
  -- what holds between the rounds, of the blocks B
  let Ok (Bs : List Asn) (B : List Nat) (h' : Heap) : Prop := Sep Bs B h' ∧ (∀ A ∈ G, ∃ S1, A.P S1 h' ∧ ∀ b ∈ S1, b ∉ B ∧ b < h.size) ∧ FrOk fr B h' ∧ (∀ p ∈ fr, p.2.size ≤ h.size) ∧ h.size ≤ h'.size
  have okHs : ∀ {Bs B h'}, Ok Bs B h' → Hs fr G Bs h' := fun {Bs B h'} ⟨a, b, c, _, _⟩ => ⟨B, a, fun A hA => let ⟨S1, p, d⟩ := b A hA; ⟨S1, p, fun x hx => (d x hx).1⟩, c⟩
  have stable : ∀ {Bs B h1 h2 T}, Ok Bs B h1 → Ext T h1 h2 → (∀ t ∈ T, t ∉ B ∧ (h.size ≤ t ∨ t ∈ ([] : List Nat))) → Ok Bs B h2 := by
    rintro Bs B h1 h2 T ⟨a, b, c, d, e⟩ x hT
    have hT' : ∀ t ∈ T, h.size ≤ t := fun t ht => (hT t ht).2.elim id (fun k => by cases k)
    refine ⟨a.keep x.1 fun y hy => x.2 y (a.cel y hy).lt (fun hin => (hT y hin).1 hy), fun A hA => ?_, fun p hp => ?_, d, Nat.le_trans e x.1⟩
    · obtain ⟨S1, p, q⟩ := b A hA
      exact ⟨S1, Asn.ext p x (fun y hy hin => by have := (q y hy).2; have := hT' y hin; omega), q⟩
    · obtain ⟨p1, p2⟩ := c p hp
      exact ⟨p1.trans x fun y hy => .inr (Nat.le_trans (d p hp) (hT' y hy)), p2⟩
  refine ⟨fun pre x h2 N => Nx pre x ∧ (Gf pre x).P N h2, Fin, F, [], fun m hm => hFlt m (hm.elim id (fun k => by cases k)), hit, fun pre B h' => ∃ Bs, Inv pre Bs ∧ Ok Bs B h', fun j B h' => ∃ Bs, Dv j Bs ∧ Ok Bs B h', S, ?_, ?_, ?_, ?_, ?_, ?_, ?_, ?_⟩
  · exact fun b hb => ⟨(hs.cel b hb).lt, fun hin => hFS' b hin hb, by simp⟩
  · rintro pre B h1 h2 T ⟨Bs, hI, ok⟩ x hT
    exact ⟨Bs, hI, stable ok x hT⟩
  · rintro j B h1 h2 T ⟨Bs, hI, ok⟩ x hT
    exact ⟨Bs, hI, stable ok x hT⟩
  · exact ⟨As, h0, hs, fun A hA => let ⟨S1, p, d⟩ := hz A hA; ⟨S1, p, fun b hb => ⟨d b hb, At.lt p b hb⟩⟩, hf, fun p hp => (hf p hp).1.1, Nat.le_refl _⟩
  · rintro pre x B0 h' N ⟨hx, hgf⟩ hN ⟨Bs, hI, a, b, c, d, e⟩
    rw [hbd]
    intro hb hoff
    have hoff' := hoff
    obtain ⟨hs1, l, hl, hlB, hnc, hnc', hk⟩ := hoff'
    have sB : Sep (Bs ++ [Gf pre x]) (B0 ++ N) h' := a.append ⟨N, [], by simp, by simp, hgf, rfl⟩ fun y hy hin => (hN y hin).2.2 hy
    have bN : ∀ A ∈ G, ∃ S1, A.P S1 h' ∧ ∀ b ∈ S1, b ∉ N ++ B0 ∧ b < h.size := fun A hA => let ⟨S1, p, q⟩ := b A hA; ⟨S1, p, fun y hy => ⟨fun hin => by
      rcases List.mem_append.1 hin with k | k
      · have := (hN y k).1; have := (q y hy).2; omega
      · exact (q y hy).1 k, (q y hy).2⟩⟩
    have cN : FrOk fr (N ++ B0) h' := fun p hp => ⟨(c p hp).1, fun y hy => by
      rcases List.mem_append.1 hy with k | k
      · exact .inr (Nat.le_trans (d p hp) (hN y k).1)
      · exact (c p hp).2 y k⟩
    obtain ⟨B, hBm, eB⟩ : ∃ B, (∀ y, y ∈ B ↔ y ∈ B0 ++ N) ∧ B = N ++ B0 := ⟨_, fun y => by simp only [List.mem_append]; exact Or.comm, rfl⟩
    rw [← eB] at bN cN hlB ⊢
    have okb : Hs ((B, hb) :: fr) G (Bs ++ [Gf pre x]) hb := by
      refine ⟨B0 ++ N, sB.keep (by omega) fun y hy => hk y (fun e' => hnc (e' ▸ sB.cel y hy)), fun A hA => ?_, fun p hp => ?_⟩
      · obtain ⟨S1, p, q⟩ := bN A hA
        exact ⟨S1, A.loc p (by omega) fun y hy => hk y (fun e' => hnc (e' ▸ A.cel p y hy)), fun y hy hin => (q y hy).1 ((hBm y).2 hin)⟩
      · rcases List.mem_cons.1 hp with hp | hp
        · subst hp; exact ⟨Ext.refl' _ _, fun y hy => .inl ((hBm y).2 hy)⟩
        · exact ⟨(cN p hp).1.off hoff (d p hp), fun y hy => (cN p hp).2 y ((hBm y).2 hy)⟩
    have back : ∀ {Bs' h2}, Hs ((B, hb) :: fr) G Bs' h2 → ∃ B', FootIn B B' h' h2 ∧ ExtC B h' h2 ∧ Ok Bs' B' h2 := by
      rintro Bs' h2 ⟨S', hs', hz', hf'⟩
      obtain ⟨xB, hB'⟩ := hf' (B, hb) (by simp)
      have hfoot : Foot B S' h' := fun y hy => (hB' y hy).imp id (fun k => by simp only at k; omega)
      have hxC : ExtC B h' h2 := by
        refine ⟨by have := xB.1; simp only at this; omega, fun y hy hyB hyc => ?_⟩
        have h1 := xB.2 y (by simp only; omega) hyB
        simp only at h1
        rw [h1, hk y (fun e' => hnc (e' ▸ hyc))]
      refine ⟨S', ⟨hfoot, fun y hy => .inr (hs'.cel y hy).lt⟩, hxC, hs', fun A hA => ?_, fun p hp => hf' p (List.mem_cons_of_mem _ hp), d, by have := xB.1; simp only at this; omega⟩
      obtain ⟨S1, p, q⟩ := bN A hA
      exact ⟨S1, A.loc p hxC.1 fun y hy => hxC.2 y (At.lt p y hy) (q y hy).1 (A.cel p y hy), fun y hy => ⟨fun hin => by
        rcases hfoot y hin with k | k
        · exact (q y hy).1 k
        · have := At.lt p y hy; omega, (q y hy).2⟩⟩
    refine body pre x Bs B hb hx hI okb _ _ (fun Bs' h2 hI' st' => ?_) (fun j Bs' h2 hD st' => ?_)
    · obtain ⟨B', f, xC, ok⟩ := back st'
      exact ⟨B', f, xC, Bs', hI', ok⟩
    · obtain ⟨B', f, xC, ok⟩ := back st'
      exact ⟨B', f, xC, Bs', hD, ok⟩
  · rintro pre B h' hfi ⟨Bs, hI, ok⟩
    exact fin pre Bs h' hfi hI (okHs ok)
  · rintro B h' ⟨Bs, hI, ok⟩
    exact ret Bs h' hI (okHs ok)
  · have : ∀ (ids : List Nat) (Ks : List HP), (∀ (i id : Nat) (K : HP), ids[i]? = some id → Ks[i]? = some K → ∀ Bs h', Dv (.exit id) Bs → Hs fr G Bs h' → K h') → AllK (fun j B h' => ∃ Bs, Dv j Bs ∧ Ok Bs B h') ids Ks := by
      intro ids
      induction ids with
      | nil => intro Ks _; trivial
      | cons id ids ih =>
        intro Ks hh
        cases Ks with
        | nil => trivial
        | cons K Ks =>
          refine ⟨fun B h' ⟨Bs, hI, ok⟩ => hh 0 id K rfl rfl Bs h' hI (okHs ok), ih Ks fun i id' K' e1 e2 => hh (i + 1) id' K' (by simpa using e1) (by simpa using e2)⟩
    exact this ids Ks exs

theorem Hs.range {P : Program} {τ : Ty} {fv : Value} {bd : τ.T → (HP → HP) → HP → (Ex → HP) → HP} {bd' : τ.T → HP → (Ex → HP) → HP} {Kn Kr : HP} {ids : List Nat} {Ks : List HP}
    (st : Hs fr G As h) (Nx : List τ.T → τ.T → Prop) (Fin : List τ.T → Prop)
    (hit : ∀ S, FzOk G S h → FrOk fr S h → ∃ F, (∀ b ∈ F, b < h.size ∧ b ∉ S) ∧ ∀ h1, NewL h h1 → IterSpec P τ fv h1 Nx Fin F [])
    (hbd : ∀ x w n j, bd x w n j = w (bd' x n j))
    (Inv : List τ.T → List Asn → Prop) (Dv : Ex → List Asn → Prop) (h0 : Inv [] As)
    (body : ∀ pre x Bs B hb, Nx pre x → Inv pre Bs → Hs ((B, hb) :: fr) G Bs hb →
      ∀ (next : HP) (jump : Ex → HP), (∀ Bs' h2, Inv (pre ++ [x]) Bs' → Hs ((B, hb) :: fr) G Bs' h2 → next h2) → (∀ j Bs' h2, Dv j Bs' → Hs ((B, hb) :: fr) G Bs' h2 → jump j h2) → bd' x next jump hb)
    (fin : ∀ pre Bs h', Fin pre → Inv pre Bs → Hs fr G Bs h' → Kn h') (ret : ∀ Bs h', Dv .ret Bs → Hs fr G Bs h' → Kr h')
    (exs : ∀ (i id : Nat) (K : HP), ids[i]? = some id → Ks[i]? = some K → ∀ Bs h', Dv (.exit id) Bs → Hs fr G Bs h' → K h') : RangeVC P τ fv bd Kn Kr ids Ks h :=
  st.rangeG Nx (fun _ _ => emp) Fin hit hbd Inv Dv h0 (fun pre x Bs B hb hx hI st => body pre x Bs B hb hx hI (by
    have := st.drop Bs.length (A := emp) (by simp)
    rwa [List.eraseIdx_append_of_length_le (Nat.le_refl _), Nat.sub_self, show ([emp] : List Asn).eraseIdx 0 = [] from rfl, List.append_nil] at this)) fin ret exs

end rules
end Go.Sx
