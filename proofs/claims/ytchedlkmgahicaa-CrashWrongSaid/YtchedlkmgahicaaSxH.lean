/-
  The heap, block by block: facts that a walk carries, and the rules of the words by them. Nothing here names a program.
-/
import Derived.Test.YtchedlkmgahicaaSx10
set_option linter.unusedVariables false
set_option linter.unusedSimpArgs false
namespace Go.Sx
open Go

def Blk (h : Heap) (b : Nat) (t : TypeId) (c : List Value) : Prop := h[b]? = some (.cells c.toArray t (0, 0))

theorem Blk.lt {h : Heap} {b : Nat} {t : TypeId} {c : List Value} (hb : Blk h b t c) : b < h.size := (Array.getElem?_eq_some_iff.1 hb).1
theorem Blk.isCells {h : Heap} {b : Nat} {t : TypeId} {c : List Value} (hb : Blk h b t c) : isCells h b := .inl ⟨_, _, _, hb⟩
theorem Blk.inj {h : Heap} {b : Nat} {t t' : TypeId} {c c' : List Value} (hb : Blk h b t c) (hb' : Blk h b t' c') : c = c' ∧ t = t' := by
  unfold Blk at hb hb'; rw [hb] at hb'; simp at hb'; exact ⟨hb'.1, hb'.2⟩

@[simp] theorem addr_add (b i n : Nat) : (⟨b, i, none⟩ : Addr).add n = ⟨b, i + n, none⟩ := by
  unfold Addr.add; split
  · rename_i h; subst h; rfl
  · rfl

theorem cell_blk {h : Heap} {b : Nat} {t : TypeId} {c : List Value} (hb : Blk h b t c) (i : Nat) : cell h ⟨b, i, none⟩ = c[i]? := by
  unfold cell; rw [hb]; simp

theorem wr_blk {h : Heap} {b : Nat} {t : TypeId} {c : List Value} (hb : Blk h b t c) {i : Nat} (hi : i < c.length) : wr h ⟨b, i, none⟩ := ⟨_, _, hb, by simpa using hi, rfl⟩

@[simp] theorem size_setC (h : Heap) (a : Addr) (v : Value) : (setC h a v).size = h.size := by simp [setC]

theorem setC_get (h : Heap) (a : Addr) (v : Value) (b : Nat) (hne : b ≠ a.block) : (setC h a v)[b]? = h[b]? := by
  simp only [setC, Array.getElem?_modify]; rw [if_neg (fun e => hne e.symm)]

theorem Blk.set {h : Heap} {b : Nat} {t : TypeId} {c : List Value} (hb : Blk h b t c) (i : Nat) (v : Value) : Blk (setC h ⟨b, i, none⟩ v) b t (c.set i v) := by
  unfold Blk Go.Sx.setC
  rw [Array.getElem?_modify]
  simp only [if_true]
  rw [show h[b]? = _ from hb]
  simp

theorem Blk.set_ne {h : Heap} {b : Nat} {t : TypeId} {c : List Value} (hb : Blk h b t c) {a : Addr} (v : Value) (hne : b ≠ a.block) : Blk (setC h a v) b t c := by
  unfold Blk; rw [setC_get _ _ _ _ hne]; exact hb

theorem Blk.push {h : Heap} {b : Nat} {t : TypeId} {c : List Value} (hb : Blk h b t c) (o : Obj) : Blk (h.push o) b t c := by
  unfold Blk; rw [Array.getElem?_push, if_neg (by have := hb.lt; omega)]; exact hb

theorem Blk.new (h : Heap) (t : TypeId) (c : Array Value) : Blk (h.push (.cells c t)) h.size t c.toList := by
  unfold Blk; rw [Array.getElem?_push]; simp

theorem Blk.ext {h h' : Heap} {b : Nat} {t : TypeId} {c : List Value} {S : List Nat} (hb : Blk h b t c) (he : Ext S h h') (hn : b ∉ S) : Blk h' b t c := by
  unfold Blk; rw [he.2 b hb.lt hn]; exact hb

theorem Ext.size {S : List Nat} {h h' : Heap} (he : Ext S h h') : h.size ≤ h'.size := he.1

theorem Ext.set {S : List Nat} {h0 h : Heap} (he : Ext S h0 h) (a : Addr) (v : Value) (hm : a.block ∈ S ∨ h0.size ≤ a.block) : Ext S h0 (setC h a v) :=
  ⟨by simpa using he.1, fun b hb hs => by
    rw [setC_get]
    · exact he.2 b hb hs
    · rintro rfl; rcases hm with h | h
      · exact hs h
      · omega⟩

theorem Ext.push {S : List Nat} {h0 h : Heap} (he : Ext S h0 h) (o : Obj) : Ext S h0 (h.push o) :=
  ⟨by have := he.1; simp; omega, fun b hb hs => by
    rw [Array.getElem?_push, if_neg (by have := he.1; omega)]; exact he.2 b hb hs⟩

theorem Ext.trans {S S' : List Nat} {h0 h h' : Heap} (he : Ext S h0 h) (he' : Ext S' h h') (hm : ∀ b ∈ S', b ∈ S ∨ h0.size ≤ b) : Ext S h0 h' :=
  ⟨Nat.le_trans he.1 he'.1, fun b hb hs => by
    rw [he'.2 b (Nat.lt_of_lt_of_le hb he.1) (fun hin => (hm b hin).elim hs (fun h => by omega))]
    exact he.2 b hb hs⟩

theorem Ext.mono {S S' : List Nat} {h h' : Heap} (he : Ext S h h') (hm : ∀ b ∈ S, b < h.size → b ∈ S') : Ext S' h h' :=
  ⟨he.1, fun b hb hs => he.2 b hb (fun hin => hs (hm b hin hb))⟩

theorem Ext.nil_trans {h0 h h' : Heap} {S : List Nat} (he : Ext S h0 h) (he' : Ext [] h h') : Ext S h0 h' := he.trans he' (fun _ h => by cases h)

theorem Ext.marked {S : List Nat} {h0 h h' : Heap} (he : Ext S h0 h) (hm : Marked h0.size h h') : Ext S h0 h' :=
  ⟨by rw [hm.1]; exact he.1, fun b hb hs => by rw [hm.2 b (.inl hb)]; exact he.2 b hb hs⟩

theorem Blk.marked {n : Nat} {h h' : Heap} {b : Nat} {t : TypeId} {c : List Value} (hb : Blk h b t c) (hm : Marked n h h') : Blk h' b t c := by
  unfold Blk; rw [hm.2 b (.inr fun ds e => by rw [show h[b]? = _ from hb] at e; cases e)]; exact hb

theorem Ext.off {S B : List Nat} {n : Nat} {h0 h h' : Heap} (he : Ext S h0 h) (ho : OffL n B h h') (hn : h0.size ≤ n) : Ext S h0 h' := by
  obtain ⟨hs, l, hl, _, _, _, hk⟩ := ho
  exact ⟨by rw [hs]; exact he.1, fun b hb hS => by rw [hk b (by omega)]; exact he.2 b hb hS⟩

theorem Blk.off {B : List Nat} {n : Nat} {h h' : Heap} {b : Nat} {t : TypeId} {c : List Value} (hb : Blk h b t c) (ho : OffL n B h h') : Blk h' b t c := by
  obtain ⟨hs, l, hl, _, hc, _, hk⟩ := ho
  unfold Blk
  rw [hk b (fun e => hc (e ▸ hb.isCells))]; exact hb

section words
variable {h : Heap} {b i : Nat} {t : TypeId} {c : List Value}

theorem ld_int {k : IntKind} {K : Int → HP} {n : Int} (hb : Blk h b t c) (hi : c[i]? = some (.int k n)) : ldT (.int k) ⟨b, i, none⟩ K h = K n h := by
  refine propext ⟨fun ⟨x, hx, hk⟩ => ?_, fun hk => ⟨n, by rw [cell_blk hb, hi]; rfl, hk⟩⟩
  rw [cell_blk hb, hi] at hx
  have e : Value.int k n = .int k x := by simpa [Ty.enc, Ty.ev] using hx
  cases e; exact hk

theorem ld_bool {K : Bool → HP} {n : Bool} (hb : Blk h b t c) (hi : c[i]? = some (.bool n)) : ldT .bool ⟨b, i, none⟩ K h = K n h := by
  refine propext ⟨fun ⟨x, hx, hk⟩ => ?_, fun hk => ⟨n, by rw [cell_blk hb, hi]; rfl, hk⟩⟩
  rw [cell_blk hb, hi] at hx
  have e : Value.bool n = .bool x := by simpa [Ty.enc, Ty.ev] using hx
  cases e; exact hk

theorem ld_sl {K : Sl → HP} {a : Option Addr} {l cp : Nat} (hb : Blk h b t c) (hi : c[i]? = some (.slice a l cp)) : ldT .sl ⟨b, i, none⟩ K h = K ⟨a, l, cp⟩ h := by
  refine propext ⟨fun ⟨x, hx, hk⟩ => ?_, fun hk => ⟨⟨a, l, cp⟩, by rw [cell_blk hb, hi]; rfl, hk⟩⟩
  rw [cell_blk hb, hi] at hx
  have e : Value.slice a l cp = .slice x.a x.len x.cap := by simpa [Ty.enc, Ty.ev] using hx
  cases e; exact hk

theorem nn_some {a : Addr} {K : Addr → HP} : nn (some a) K h = K a h := rfl
theorem brB_true {A B : HP} : brB true A B h = A h := rfl
theorem brB_false {A B : HP} : brB false A B h = B h := rfl

theorem st_ok {v : Value} {K : HP} (hb : Blk h b t c) (hi : i < c.length) : st1 ⟨b, i, none⟩ v K h = K (setC h ⟨b, i, none⟩ v) :=
  propext ⟨fun k => k.2, fun k => ⟨wr_blk hb hi, k⟩⟩
theorem ck_ok {v : Value} {K : HP} (hb : Blk h b t c) (hi : c[i]? = some v) : ck ⟨b, i, none⟩ v K h = K h :=
  propext ⟨fun k => k.2, fun k => ⟨by rw [cell_blk hb, hi], k⟩⟩
theorem ge0_ok {y : Int} {K : HP} (hy : 0 ≤ y) : ge0 y K h = K h := propext ⟨fun k => k.2, fun k => ⟨hy, k⟩⟩
theorem nz_ok {y : Int} {K : HP} (hy : y ≠ 0) : nz y K h = K h := propext ⟨fun k => k.2, fun k => ⟨hy, k⟩⟩
theorem nw_eq {cs : Array Value} {K : Nat → HP} : nw cs t K h = K h.size (h.push (.cells cs t)) := rfl
theorem call_of {P : Program} {f : FuncId} {args : Array Value} {τ : Ty} {R K : τ.T → HP} (hc : callT P f args τ R h) (hk : ∀ x h', R x h' → K x h') : callT P f args τ K h :=
  CallsH.mono hc fun v h' ⟨x, e, r⟩ => ⟨x, e, hk x h' r⟩
theorem callF_of {P : Program} {fv : Value} {args : Array Value} {τ : Ty} {R K : τ.T → HP} (hc : callF P fv args τ R h) (hk : ∀ x h', R x h' → K x h') : callF P fv args τ K h :=
  CallV.mono hc fun v h' ⟨x, e, r⟩ => ⟨x, e, hk x h' r⟩
theorem callF_func {P : Program} {g : FuncId} {first cap args : Array Value} {τ : Ty} {K : τ.T → HP} (hc : callT P g (first ++ args ++ cap) τ K h) : callF P (.func (.func g) first cap) args τ K h :=
  callV_func hc
theorem lfp_invh {σ : Type} {B : (σ → HP) → σ → HP} {s0 : σ} (I : Nat → σ → HP) (h0 : ∃ n, I n s0 h)
    (step : ∀ n s h' (X : σ → HP), I n s h' → (∀ m s2 h2, I m s2 h2 → m < n → X s2 h2) → B X s h') : lfp B s0 h := by
  intro X hX
  have key : ∀ n s h', I n s h' → X s h' := by
    intro n
    induction n using Nat.strongRecOn with
    | _ n ih =>
      intro s h' hi
      exact hX s h' (step n s h' X hi fun m s2 h2 hi2 hlt => ih m hlt s2 h2 hi2)
  obtain ⟨n, hn⟩ := h0
  exact key n _ _ hn
theorem jn_mid {σ : Type} {k : σ → HP} {B : (σ → HP) → HP} (M : σ → HP) (hk : ∀ s h', M s h' → k s h') (hb : ∀ J : σ → HP, (∀ s h', M s h' → J s h') → B J h) : jn k B h :=
  fun J hJ => hb J fun s h' hm => hJ s h' (hk s h' hm)
theorem jn_in {σ : Type} {k : σ → HP} {B : (σ → HP) → HP} (hb : ∀ J : σ → HP, (∀ s h', k s h' → J s h') → B J h) : jn k B h := hb
end words

theorem wrap_i64 {x : Int} (h0 : -9223372036854775808 ≤ x) (h1 : x ≤ 9223372036854775807) : IntKind.wrap .i64 x = x := by
  have e : IntKind.wrap .i64 x = (if x % 18446744073709551616 ≥ 9223372036854775808 then x % 18446744073709551616 - 18446744073709551616 else x % 18446744073709551616) := by
    simp [IntKind.wrap, IntKind.bits, IntKind.signed]
  rw [e]
  split <;> omega

end Go.Sx
