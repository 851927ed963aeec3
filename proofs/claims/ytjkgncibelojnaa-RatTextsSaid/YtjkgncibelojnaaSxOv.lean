/-
  slices.overlaps, slices.Insert of one element. Nothing here names a program.
-/
import Derived.Test.YtjkgncibelojnaaSxW3
import Derived.Lib.Overlaps
set_option linter.unusedVariables false
namespace Go.Sx
open Go

theorem overlaps_c {P : Program} {f : FuncId} {fn : Func} {tS tR e : TypeId} (hf : P.funcs[f]? = some fn) (hname : (fn.name == "runtime.NumGoroutine") = false) (hb : fn.body.isNone = true) (hn : Extern.findNext fn = none)
    (he : Extern.find fn = some (Extern.SlicesOverlaps.overlaps #[tS, tS] #[tR])) (ht : P.underlying tS = some (.slice e)) (hz : ∀ w, (Go.sizeOf e).run P w = .ok 1 w)
    {h : Heap} {b1 b2 i j la ca lb cb : Nat} {t1 t2 : TypeId} {c1 c2 : List Value} (k1 : Blk h b1 t1 c1) (k2 : Blk h b2 t2 c2) (hne : b1 ≠ b2) (hc2 : c2 ≠ []) :
    callT P f #[.slice (some ⟨b1, i, none⟩) la ca, .slice (some ⟨b2, j, none⟩) lb cb] .bool (fun r h' => r = false ∧ h' = h) h := by
  intro w hw
  subst hw
  have hsa : w.shape? b1 = some (t1, c1.length) := by unfold World.shape?; rw [show w.heap[b1]? = _ from k1]; simp
  have hsb : w.shape? b2 = some (t2, c2.length) := by unfold World.shape?; rw [show w.heap[b2]? = _ from k2]; simp
  have hfa : ∀ o, w.frozen? ⟨b1, o, none⟩ = false := fun o => by unfold World.frozen?; simp only; rw [show w.heap[b1]? = _ from k1]; simp
  refine goes_value (w' := w) (v := .bool false) ?_ ⟨Same.refl w, false, rfl, rfl, rfl⟩
  rw [run_callFunc_extern hf hname hb hn he, Lib.run_overlaps_apart w tS tR e ht 1 hz ⟨b1, i, none⟩ ⟨b2, j, none⟩ la ca lb cb hne t1 t2 c1.length c2.length hsa hsb (by cases c2 with | nil => exact absurd rfl hc2 | cons _ _ => simp) (hfa _) (hfa _)]
  rfl

section
variable {P : Program} {τ : Ty} {t : TypeId} {h h' : Heap} {xs ys : List τ.T} {s s2 : Sl} {fr : Fr} {G As : List Asn} {by_ : Nat} {z : Value}

def W_insert (P : Program) (t : TypeId) (by_ : Nat) (z : Value) (fov frr : FuncId) (a0 : Sl) (a1 : Int) (a2 : Sl) (K : Sl → HP) : HP :=
  slL ⟨a0.a, a0.len, a0.cap⟩ a1 1 fun s0 =>
  brB ((a2.len : Int) == (0 : Int)) (K ⟨a0.a, a0.len, a0.cap⟩)
    (brB (a1 == (a0.len : Int)) (apd t 1 by_ #[z] ⟨a0.a, a0.len, a0.cap⟩ ⟨a2.a, a2.len, a2.cap⟩ fun s1 => K ⟨s1.a, s1.len, s1.cap⟩)
      (brB (decide ((IntKind.wrap .i64 ((a0.len : Int) + (a2.len : Int))) > (a0.cap : Int)))
        (slH ⟨a0.a, a0.len, a0.cap⟩ a1 1 fun s2 => apz t 1 by_ #[z] ⟨s2.a, s2.len, s2.cap⟩ (IntKind.wrap .i64 ((IntKind.wrap .i64 ((a0.len : Int) + (a2.len : Int))) - a1)) fun s3 =>
          slL ⟨s3.a, s3.len, s3.cap⟩ a1 1 fun s4 => cpy 1 ⟨s4.a, s4.len, s4.cap⟩ ⟨a2.a, a2.len, a2.cap⟩ fun n5 =>
          slL ⟨s3.a, s3.len, s3.cap⟩ (IntKind.wrap .i64 (a1 + (a2.len : Int))) 1 fun s6 => slL ⟨a0.a, a0.len, a0.cap⟩ a1 1 fun s7 =>
          cpy 1 ⟨s6.a, s6.len, s6.cap⟩ ⟨s7.a, s7.len, s7.cap⟩ fun n8 => K ⟨s3.a, s3.len, s3.cap⟩)
        (slH ⟨a0.a, a0.len, a0.cap⟩ (IntKind.wrap .i64 ((a0.len : Int) + (a2.len : Int))) 1 fun s9 => slL ⟨s9.a, s9.len, s9.cap⟩ (IntKind.wrap .i64 (a1 + (a2.len : Int))) 1 fun s10 =>
          callT P fov #[(.slice a2.a a2.len a2.cap), (.slice s10.a s10.len s10.cap)] .bool fun r11 =>
          brB (!r11)
            (slL ⟨s9.a, s9.len, s9.cap⟩ (IntKind.wrap .i64 (a1 + (a2.len : Int))) 1 fun s12 => slL ⟨s9.a, s9.len, s9.cap⟩ a1 1 fun s13 => cpy 1 ⟨s12.a, s12.len, s12.cap⟩ ⟨s13.a, s13.len, s13.cap⟩ fun n14 =>
              slL ⟨s9.a, s9.len, s9.cap⟩ a1 1 fun s15 => cpy 1 ⟨s15.a, s15.len, s15.cap⟩ ⟨a2.a, a2.len, a2.cap⟩ fun n16 => K ⟨s9.a, s9.len, s9.cap⟩)
            (slL ⟨s9.a, s9.len, s9.cap⟩ (a0.len : Int) 1 fun s17 => cpy 1 ⟨s17.a, s17.len, s17.cap⟩ ⟨a2.a, a2.len, a2.cap⟩ fun n18 => slL ⟨s9.a, s9.len, s9.cap⟩ a1 1 fun s19 =>
              callT P frr #[(.slice s19.a s19.len s19.cap), (.int .i64 (a2.len : Int))] (.tup .nil) fun r20 => K ⟨s9.a, s9.len, s9.cap⟩))))

theorem slR_at {b o len cap l m : Nat} (hl : l < cap) : slR ⟨some ⟨b, o, none⟩, len, cap⟩ l m 1 = ⟨some ⟨b, o + l, none⟩, m - l, cap - l⟩ := by
  unfold slR
  simp only [if_neg (show ¬ cap = l by omega), Option.map_some, addr_add, Nat.mul_one]

theorem cpy_ok {b b2 o o2 ld cd ls cs : Nat} {t2 : TypeId} {c c2 vs : List Value} {K : Int → HP} (hb : Blk h b t c) (hb2 : Blk h b2 t2 c2) (hm : Nat.min ls ld = vs.length) (hs : ∀ j, j < vs.length → c2[o2 + j]? = vs[j]?)
    (hc : o + vs.length ≤ c.length) (hv : ∀ v ∈ vs, leafB v = true) (hK : ∀ h', Blk h' b t (c.take o ++ vs ++ c.drop (o + vs.length)) → Ext [b] h h' → K (Nat.min ls ld : Nat) h') :
    cpy 1 ⟨some ⟨b, o, none⟩, ld, cd⟩ ⟨some ⟨b2, o2, none⟩, ls, cs⟩ K h := by
  refine ⟨vs, ?_, ?_⟩
  · show FirstCells h (some ⟨b2, o2, none⟩) (Nat.min ls ld * 1) vs
    rw [hm, Nat.mul_one]
    exact ⟨rfl, CellsAt_blk' _ hb2 0 fun j hj => by rw [Nat.add_zero]; exact hs j hj⟩
  · refine stA_ok vs 0 hb (by omega) hv fun h' hb' x => hK h' ?_ x
    simpa using hb'

theorem Hs.insert {bv : Nat} {x : τ.T} {fov frr : FuncId} {K : Sl → HP} (st : Hs fr G As h) (k kx : Nat) (hk : As[k]? = some (osl t τ.enc xs s)) (hkx : As[kx]? = some (cl bv t [τ.enc x])) (hne : k ≠ kx) (hleaf : Leaf τ)
    {i : Nat} (hi : i ≤ xs.length) (hlen : (xs.length + 1) * by_ ≤ 140737488355328) (hby : 0 < by_)
    (hov : ∀ {h : Heap} {b2 j lb cb : Nat} {c1 c2 : List Value}, Blk h bv t c1 → Blk h b2 t c2 → bv ≠ b2 → c2 ≠ [] → callT P fov #[.slice (some ⟨bv, 0, none⟩) 1 1, .slice (some ⟨b2, j, none⟩) lb cb] .bool (fun r h' => r = false ∧ h' = h) h)
    (hK : ∀ s' h', Hs fr G (As.set k (osl t τ.enc (xs.take i ++ x :: xs.drop i) s')) h' → K s' h') : W_insert P t by_ z fov frr s (i : Int) ⟨some ⟨bv, 0, none⟩, 1, 1⟩ K h := by
  have l1 := osl_len (st.own k hk)
  have lcap := rsl_cap (st.own k hk).rsl
  have hn2 : xs.length + 1 ≤ 140737488355328 := Nat.le_trans (Nat.le_mul_of_pos_right _ hby) hlen
  unfold W_insert
  refine ⟨Int.natCast_nonneg _, Int.ofNat_le.2 (show i ≤ s.len by omega), ?_⟩
  show brB (((⟨some ⟨bv, 0, none⟩, 1, 1⟩ : Sl).len : Int) == 0) _ _ h
  rw [show (((⟨some ⟨bv, 0, none⟩, 1, 1⟩ : Sl).len : Int) == 0) = false from rfl, brB_false]
  by_cases hin : i = xs.length
  · rw [show ((i : Int) == (s.len : Int)) = true by rw [l1, hin]; simp, brB_true]
    refine st.apd (enc := τ.enc) (v := x) k kx hk hkx hne (hleaf x) hlen hby rfl fun s' h' st => ?_
    refine hK s' h' ?_
    rw [hin, List.take_length, List.drop_length]; exact st
  · rw [show ((i : Int) == (s.len : Int)) = false by rw [l1]; simp; omega, brB_false]
    have ew : IntKind.wrap .i64 ((s.len : Int) + ((⟨some ⟨bv, 0, none⟩, 1, 1⟩ : Sl).len : Int)) = ((xs.length + 1 : Nat) : Int) := by
      show IntKind.wrap .i64 ((s.len : Int) + ((1 : Nat) : Int)) = _
      rw [l1, wrap_i64 (by omega) (by omega)]; omega
    have ei : IntKind.wrap .i64 ((i : Int) + ((⟨some ⟨bv, 0, none⟩, 1, 1⟩ : Sl).len : Int)) = ((i + 1 : Nat) : Int) := by
      show IntKind.wrap .i64 ((i : Int) + ((1 : Nat) : Int)) = _
      rw [wrap_i64 (by omega) (by omega)]; omega
    rw [ew, ei]
    have hbv := st.blk kx hkx
    obtain ⟨S1, p, hw⟩ := st.focus k hk
    rcases p with ⟨b, rest, eS, es, hb⟩ | ⟨_, ex, _⟩
    · subst es
      simp only at l1 lcap ⊢
      generalize hA : (xs.take i).map τ.enc = A
      generalize hD : (xs.drop i).map τ.enc = D
      have eAD : xs.map τ.enc = A ++ D := by rw [← hA, ← hD, ← List.map_append, List.take_append_drop]
      have lA : A.length = i := by rw [← hA]; simp; omega
      have lD : D.length = xs.length - i := by rw [← hD]; simp
      have hDv : ∀ v ∈ D, leafB v = true := by
        intro v hv; rw [← hD] at hv
        obtain ⟨y, _, rfl⟩ := List.mem_map.1 hv
        exact hleaf y
      have hxv : ∀ v ∈ [τ.enc x], leafB v = true := by intro v hv; simp at hv; subst hv; exact hleaf x
      rw [eAD] at hb
      have efin : ∀ R : List Value, (xs.take i ++ x :: xs.drop i).map τ.enc ++ R = A ++ [τ.enc x] ++ D ++ R := fun R => by rw [List.map_append, List.map_cons, hA, hD]; simp
      have elen : (xs.take i ++ x :: xs.drop i).length = xs.length + 1 := by simp; omega
      by_cases hroom : rest.length = 0
      · -- a new row
        rw [decide_eq_true (show ((xs.length + 1 : Nat) : Int) > ((xs.length + rest.length : Nat) : Int) by omega), brB_true]
        refine ⟨Int.natCast_nonneg _, Int.ofNat_le.2 (show i ≤ xs.length + rest.length by omega), ?_⟩
        rw [Int.toNat_natCast, slR_at (by omega)]
        have e1 : IntKind.wrap .i64 (((xs.length + 1 : Nat) : Int) - (i : Int)) = ((xs.length + 1 - i : Nat) : Int) := by rw [wrap_i64 (by omega) (by omega)]; omega
        rw [e1]
        have e2 : i - 0 + (xs.length + 1 - i) = xs.length + 1 := by omega
        refine ⟨Int.natCast_nonneg _, ?_, hby, by decide, fun hle => ?_, fun hgt => ⟨?_, A, ?_, fun nc h1 h2 => ?_⟩⟩
        · have h3 : (xs.length + 1 - i) * by_ ≤ (xs.length + 1) * by_ := Nat.mul_le_mul_right _ (by omega)
          have h4 : (((xs.length + 1 - i : Nat) : Int) * (by_ : Int)) = (((xs.length + 1 - i) * by_ : Nat) : Int) := by simp
          rw [h4]; omega
        · simp only [Int.toNat_natCast] at hle; omega
        · simp only [Int.toNat_natCast]; rw [e2]; exact hlen
        · show FirstCells h (some ⟨b, 0 + 0, none⟩) ((i - 0) * 1) A
          refine ⟨by omega, CellsAt_blk' _ hb 0 fun j hj => ?_⟩
          rw [List.append_assoc, List.getElem?_append_left (by omega)]
          congr 1; omega
        · simp only [Int.toNat_natCast] at h1 ⊢
          rw [e2] at h1 ⊢
          have hz : ¬ (xs.length + 1 - i) * 1 = 0 := by omega
          rw [if_neg hz]
          have hb1 := Blk.new h t (A.toArray ++ Builtin.zeroCells #[z] (xs.length + 1 - i) ++ Builtin.zeroCells #[z] (nc - (xs.length + 1)))
          have x1 := (Ext.refl' [] h).push (.cells (A.toArray ++ Builtin.zeroCells #[z] (xs.length + 1 - i) ++ Builtin.zeroCells #[z] (nc - (xs.length + 1))) t)
          generalize h.push (.cells (A.toArray ++ Builtin.zeroCells #[z] (xs.length + 1 - i) ++ Builtin.zeroCells #[z] (nc - (xs.length + 1))) t) = hh at hb1 x1 ⊢
          have lZ : ((Builtin.zeroCells #[z] (xs.length + 1 - i)).toList ++ (Builtin.zeroCells #[z] (nc - (xs.length + 1))).toList).length = nc - i := by simp [Builtin.zeroCells]; omega
          have eZ : (A.toArray ++ Builtin.zeroCells #[z] (xs.length + 1 - i) ++ Builtin.zeroCells #[z] (nc - (xs.length + 1))).toList = A ++ ((Builtin.zeroCells #[z] (xs.length + 1 - i)).toList ++ (Builtin.zeroCells #[z] (nc - (xs.length + 1))).toList) := by simp
          rw [eZ] at hb1
          generalize (Builtin.zeroCells #[z] (xs.length + 1 - i)).toList ++ (Builtin.zeroCells #[z] (nc - (xs.length + 1))).toList = Z at hb1 lZ
          have hb0 := hb.ext x1 (by simp)
          have hbv1 := hbv.ext x1 (by simp)
          have hbs : b < h.size := hb.lt
          have hbvs : bv < h.size := hbv.lt
          refine ⟨Int.natCast_nonneg _, Int.ofNat_le.2 (show i ≤ xs.length + 1 by omega), ?_⟩
          rw [Int.toNat_natCast, slR_at (by omega)]
          refine cpy_ok (vs := [τ.enc x]) hb1 hbv1 (by simp [Nat.min_def]; omega) (by intro j hj; simp at hj; subst hj; rfl) (by simp; omega) hxv fun h3 hb3 x3 => ?_
          refine ⟨Int.natCast_nonneg _, Int.ofNat_le.2 (show i + 1 ≤ xs.length + 1 by omega), ?_⟩
          rw [Int.toNat_natCast, slR_at (by omega)]
          refine ⟨Int.natCast_nonneg _, Int.ofNat_le.2 (show i ≤ xs.length by omega), ?_⟩
          rw [Int.toNat_natCast, slR_at (by omega)]
          have hb03 := hb0.ext x3 (by simp; omega)
          have e4 : (A ++ Z).take (0 + i) ++ [τ.enc x] ++ (A ++ Z).drop (0 + i + [τ.enc x].length) = (A ++ [τ.enc x]) ++ Z.drop 1 := by
            rw [Nat.zero_add, ← lA, List.take_left, ← List.drop_drop, List.drop_left]; rfl
          rw [e4] at hb3
          refine cpy_ok (vs := D) hb3 hb03 (by simp [Nat.min_def]; omega) ?_ (by simp; omega) hDv fun h5 hb5 x5 => ?_
          · intro j hj
            rw [List.append_assoc, List.getElem?_append_right (by omega), List.getElem?_append_left (by omega)]
            congr 1; omega
          · have e5 : ((A ++ [τ.enc x]) ++ Z.drop 1).take (0 + (i + 1)) ++ D ++ ((A ++ [τ.enc x]) ++ Z.drop 1).drop (0 + (i + 1) + D.length) = (xs.take i ++ x :: xs.drop i).map τ.enc ++ (Z.drop 1).drop D.length := by
              have l5 : 0 + (i + 1) = (A ++ [τ.enc x]).length := by simp; omega
              rw [l5, List.take_left, ← List.drop_drop, List.drop_left, efin]
            rw [e5] at hb5
            refine hK _ _ (hw (osl t τ.enc (xs.take i ++ x :: xs.drop i) ⟨some ⟨h.size, 0, none⟩, xs.length + 1, nc⟩) [h.size] h5 ?_ (.inl ⟨h.size, _, rfl, ?_, hb5⟩) (by simp))
            · have := (x1.mono (S' := S1) (by simp)).trans x3 (fun y hy => by simp at hy; subst hy; exact .inr (Nat.le_refl _))
              exact this.trans x5 (fun y hy => by simp at hy; subst hy; exact .inr (Nat.le_refl _))
            · rw [elen]; simp; omega
      · -- in place
        rw [decide_eq_false (show ¬ ((xs.length + 1 : Nat) : Int) > ((xs.length + rest.length : Nat) : Int) by omega), brB_false]
        refine ⟨Int.natCast_nonneg _, Int.ofNat_le.2 (show xs.length + 1 ≤ xs.length + rest.length by omega), ?_⟩
        rw [Int.toNat_natCast, slR_at (by omega)]
        have hbb : bv ≠ b := by
          intro e; subst e
          have := (hb.inj hbv).1
          have := congrArg List.length this
          simp at this; omega
        refine ⟨Int.natCast_nonneg _, Int.ofNat_le.2 (show i + 1 ≤ xs.length + 1 - 0 by omega), ?_⟩
        rw [Int.toNat_natCast]
        simp only [Nat.sub_zero]
        rw [slR_at (by omega)]
        refine call_of (hov hbv hb hbb (by intro e; have := congrArg List.length e; rw [List.length_append, List.length_append, List.length_nil] at this; omega)) ?_
        rintro r hq ⟨er, eq⟩
        subst eq
        rw [er, show (!false) = true from rfl, brB_true]
        refine ⟨Int.natCast_nonneg _, Int.ofNat_le.2 (show i + 1 ≤ xs.length + 1 by omega), ?_⟩
        rw [Int.toNat_natCast, slR_at (by omega)]
        refine ⟨Int.natCast_nonneg _, Int.ofNat_le.2 (show i ≤ xs.length + 1 by omega), ?_⟩
        rw [Int.toNat_natCast, slR_at (by omega)]
        refine cpy_ok (vs := D) hb hb ((show Nat.min (xs.length + 1 - i) (xs.length + 1 - (i + 1)) = D.length from (Nat.min_eq_right (by omega)).trans (by omega))) ?_ (by simp; omega) hDv fun h3 hb3 x3 => ?_
        · intro j hj
          rw [List.append_assoc, List.getElem?_append_right (by omega), List.getElem?_append_left (by omega)]
          congr 1; omega
        refine ⟨Int.natCast_nonneg _, Int.ofNat_le.2 (show i ≤ xs.length + 1 by omega), ?_⟩
        rw [Int.toNat_natCast, slR_at (by omega)]
        have hbv3 := hbv.ext x3 (by simp; omega)
        have e4 : (A ++ D ++ rest).take (0 + 0 + (i + 1)) ++ D ++ (A ++ D ++ rest).drop (0 + 0 + (i + 1) + D.length) = A ++ (D.take 1 ++ (D ++ rest.drop 1)) := by
          have l5 : 0 + 0 + (i + 1) = A.length + 1 := by omega
          have l6 : A.length + 1 + D.length = A.length + (D.length + 1) := by omega
          rw [l5, List.append_assoc A D rest, List.take_length_add_append, List.take_append_of_le_length (by omega), l6, List.drop_length_add_append, List.drop_length_add_append, List.append_assoc, List.append_assoc]
        rw [e4] at hb3
        have lT : (D.take 1).length = 1 := by simp; omega
        refine cpy_ok (vs := [τ.enc x]) hb3 hbv3 (by simp [Nat.min_def]; omega) (by intro j hj; simp at hj; subst hj; rfl) (by simp; omega) hxv fun h5 hb5 x5 => ?_
        have e5 : (A ++ (D.take 1 ++ (D ++ rest.drop 1))).take (0 + 0 + i) ++ [τ.enc x] ++ (A ++ (D.take 1 ++ (D ++ rest.drop 1))).drop (0 + 0 + i + [τ.enc x].length) = (xs.take i ++ x :: xs.drop i).map τ.enc ++ rest.drop 1 := by
          have l5 : 0 + 0 + i = A.length := by omega
          rw [l5, List.take_left, ← List.drop_drop, List.drop_left, efin, show [τ.enc x].length = (D.take 1).length by rw [lT]; rfl, List.drop_left]
          simp
        rw [e5] at hb5
        refine hK _ _ (hw (osl t τ.enc (xs.take i ++ x :: xs.drop i) ⟨some ⟨b, 0 + 0, none⟩, xs.length + 1, xs.length + rest.length - 0⟩) [b] h5 ?_ (.inl ⟨b, _, rfl, ?_, hb5⟩) (by simp [eS]))
        · rw [eS]; exact x3.trans x5 (fun y hy => .inl hy)
        · rw [elen]; simp; omega
    · subst ex; simp at hi; omega

end
end Go.Sx
