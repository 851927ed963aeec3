/-
  RupWrong.
-/
import Derived.Test.YtcoeaaobbfbcjaaRuY
import Derived.Test.YtcoeaaobbfbcjaaSxDl
import Derived.Test.YtcoeaaobbfbcjaaSxW3
import Derived.Test.YtcoeaaobbfbcjaaSxOv
import Derived.ChangeKeysEq
set_option linter.unusedVariables false
set_option linter.unusedSimpArgs false
namespace Go.Proofs.S
open Go Go.Sx Go.Proofs Go.Cl Go.Rp

variable {h : Heap} {c d A us o e : List Int} {cs ds hs l : List (List Int)} {s s2 s3 s4 : Sl} {fr : Fr} {G As : List Asn} {b n : Nat} {t : TypeId}

theorem info26 : (Try.prog.info? 26).isSome = true := by kernel_rfl
theorem cells26 : Try.prog.cellsOf 26 = 1 := by kernel_rfl
theorem size26 (w : World) : (Go.sizeOf 26).run Try.prog w = .ok 1 w := by
  obtain ⟨i, hi⟩ := Option.isSome_iff_exists.1 info26
  rw [run_sizeOf w hi, cells26]
theorem overG_c {bv b2 j lb cb : Nat} {t1 t2 : TypeId} {c1 c2 : List Value} (k1 : Blk h bv t1 c1) (k2 : Blk h b2 t2 c2) (hne : bv ≠ b2) (hc : c2 ≠ []) :
    callT Try.prog fn_slices_overlaps_clauses_Clause #[.slice (some ⟨bv, 0, none⟩) 1 1, .slice (some ⟨b2, j, none⟩) lb cb] .bool (fun r h' => r = false ∧ h' = h) h :=
  overlaps_c (P := Try.prog) (fn := Try.f83) (tS := 28) (tR := 4) (e := 26) Try.func83 (by kernel_rfl) (by kernel_rfl) (by kernel_rfl) (by kernel_rfl) Try.underlying28 size26 k1 k2 hne hc
theorem Hs.insG {bv : Nat} {p : Sl} {ps : List Sl} {K : Sl → HP} (st : Hs fr G As h) (k kx : Nat) (hk : As[k]? = some (osl ty_clauses_Clause Ty.sl.enc ps s)) (hkx : As[kx]? = some (cl bv ty_clauses_Clause [.slice p.a p.len p.cap])) (hne : k ≠ kx)
    {i : Nat} (hi : i ≤ ps.length) (hlen : ps.length ≤ 1048576) (hK : ∀ s' h', Hs fr G (As.set k (osl ty_clauses_Clause Ty.sl.enc (ps.take i ++ p :: ps.drop i) s')) h' → K s' h') :
    callT Try.prog fn_slices_Insert_clauses_Clause_clauses_Clause #[.slice s.a s.len s.cap, .int .i64 i, .slice (some ⟨bv, 0, none⟩) 1 1] .sl K h := by
  refine S_slices_Insert_clauses_Clause_clauses_Clause (a0 := s) (a1 := (i : Int)) (a2 := ⟨some ⟨bv, 0, none⟩, 1, 1⟩) K ?_
  exact Hs.insert (P := Try.prog) (τ := .sl) (t := ty_clauses_Clause) (by_ := 24) (z := .slice none 0 0) (fov := fn_slices_overlaps_clauses_Clause) (frr := fn_slices_rotateRight_clauses_Clause) (x := p) st k kx hk hkx hne leaf_sl hi (by omega) (by decide) overG_c hK

theorem Inner.mkQ {β : Type} {I : β → Sl → Asn} {Q : Nat → Prop} : ∀ {xs : List β} {ps : List Sl}, ps.length = xs.length → (∀ q ∈ xs.zip ps, ∃ S, (I q.1 q.2).P S h ∧ ∀ b ∈ S, Q b) → ∃ S, Inner I xs ps S h ∧ ∀ b ∈ S, Q b
  | [], [], _, _ => ⟨[], rfl, by simp⟩
  | x :: xs, p :: ps, hl, hq => by
    obtain ⟨S1, p1, q1⟩ := hq (x, p) (by simp)
    obtain ⟨S2, p2, q2⟩ := Inner.mkQ (xs := xs) (ps := ps) (by simpa using hl) fun q hq' => hq q (by simp [hq'])
    exact ⟨S1 ++ S2, ⟨S1, S2, rfl, p1, p2⟩, fun b hb => (List.mem_append.1 hb).elim (q1 b) (q2 b)⟩
  | [], _ :: _, hl, _ => by simp at hl
  | _ :: _, [], hl, _ => by simp at hl
theorem Hs.gainRows {ps : List Sl} (st : Hs fr G As h) (hh : rsl Ty.sl.enc ps s ∈ G) (hl : ps.length = l.length) (hr : ∀ q ∈ l.zip ps, li q.1 q.2 ∈ G) : Hs fr (G ++ [lli l s]) As h := by
  obtain ⟨S, hs, hz, hf⟩ := st
  refine ⟨S, hs, fun A hA => ?_, hf⟩
  rcases List.mem_append.1 hA with hA | hA
  · exact hz A hA
  · simp at hA; subst hA
    obtain ⟨S1, p1, d1⟩ := hz _ hh
    obtain ⟨S2, p2, d2⟩ := Inner.mkQ (I := fun c p => li c p) (Q := fun b => b ∉ S) hl fun q hq => hz _ (hr q hq)
    exact ⟨S1 ++ S2, ⟨ps, S1, S2, rfl, p1, p2⟩, fun b hb => (List.mem_append.1 hb).elim (d1 b) (d2 b)⟩
theorem zip_take {α β : Type} {q : α × β} : ∀ {k : Nat} {l : List α} {ps : List β}, q ∈ (l.take k).zip (ps.take k) → q ∈ l.zip ps
  | 0, l, ps, h => by simp at h
  | k + 1, [], ps, h => by simp at h
  | k + 1, x :: l, [], h => by simp at h
  | k + 1, x :: l, p :: ps, h => by
    simp only [List.take_succ_cons, List.zip_cons_cons, List.mem_cons] at h ⊢
    exact h.imp id zip_take
theorem zip_drop {α β : Type} {q : α × β} : ∀ {k : Nat} {l : List α} {ps : List β}, q ∈ (l.drop k).zip (ps.drop k) → q ∈ l.zip ps
  | 0, l, ps, h => h
  | k + 1, [], ps, h => by simp at h
  | k + 1, x :: l, [], h => by simp at h
  | k + 1, x :: l, p :: ps, h => by
    simp only [List.drop_succ_cons, List.zip_cons_cons, List.mem_cons] at h ⊢
    exact .inr (zip_drop h)
theorem zip_rows {q : List Int × Sl} : ∀ {l : List (List Int)} {ps : List Sl}, q ∈ l.zip ps → li q.1 q.2 ∈ rows l ps
  | [], ps, h => by simp at h
  | x :: l, [], h => by simp at h
  | x :: l, p :: ps, h => by
    simp only [List.zip_cons_cons, List.mem_cons] at h
    unfold rows
    simp only [List.zipWith_cons_cons, List.mem_cons]
    rcases h with rfl | h
    · exact .inl rfl
    · exact .inr (zip_rows h)

/-- What the law does with the wrong clauses. -/
def WrTl (r1 r2 : Sl) (z : Int) (r9 : Sl) (K : Bool → HP) : HP :=
 callT Try.prog fn_rup_Check #[(.slice r1.a r1.len r1.cap), (.slice r9.a r9.len r9.cap)] (.tup (.cons (.int .i64) (.cons (.int .i64) .nil))) fun r10 =>
 callT Try.prog fn_rup_Find #[(.slice r1.a r1.len r1.cap), (.slice r9.a r9.len r9.cap)] (.tup (.cons .sl (.cons .bool (.cons (.int .i64) .nil)))) fun r11 =>
 nw #[(.int .i64 z)] ty_lits_Lit fun b12 =>
 callT Try.prog fn_rup_Trim #[(.slice (some (⟨b12, 0, none⟩ : Addr)) 1 1), (.slice r2.a r2.len r2.cap)] (.tup (.cons .sl (.cons (.int .i64) .nil))) fun r13 =>
 nw #[(.int .i64 (1 : Int)), (.int .i64 (-1 : Int))] ty_lits_Lit fun b14 =>
 callT Try.prog fn_rup_Follow #[(.slice (some (⟨b14, 0, none⟩ : Addr)) 2 2), (.slice r9.a r9.len r9.cap)] (.tup (.cons .sl (.cons (.int .i64) (.cons .bool (.cons (.int .i64) .nil))))) fun r15 =>
 nw #[(.int .i64 z)] ty_lits_Lit fun b16 =>
 callT Try.prog fn_rup_Follow #[(.slice (some (⟨b16, 0, none⟩ : Addr)) 1 1), (.slice r2.a r2.len r2.cap)] (.tup (.cons .sl (.cons (.int .i64) (.cons .bool (.cons (.int .i64) .nil))))) fun r17 =>
 nw #[(.int .i64 z)] ty_lits_Lit fun b18 =>
 nw #[(.int .i64 z)] ty_lits_Lit fun b19 =>
 callT Try.prog fn_rup_Look #[(.slice (some (⟨b18, 0, none⟩ : Addr)) 1 1), (.slice (some (⟨b19, 0, none⟩ : Addr)) 1 1)] (.tup (.cons (.int .u8) (.cons (.int .i64) (.cons (.int .i64) .nil)))) fun r20 =>
 nw #[(.int .i64 (3 : Int)), (.int .i64 (2 : Int)), (.int .i64 (-3 : Int))] ty_lits_Lit fun b21 =>
 callT Try.prog fn_rup_Look #[(.slice r1.a r1.len r1.cap), (.slice (some (⟨b21, 0, none⟩ : Addr)) 3 3)] (.tup (.cons (.int .u8) (.cons (.int .i64) (.cons (.int .i64) .nil)))) fun r22 =>
 nw #[(.int .i64 r10.2.1), (.int .i64 r11.2.2.1), (.int .i64 r13.2.1), (.int .i64 r15.2.2.2.1), (.int .i64 r20.2.2.1)] ty_api_Errno fun b23 =>
 lfp (σ := (Int × (Bool × Unit))) (fun X24 s25 => /-   -/
 brB (decide (s25.1 < (5 : Int)))
 (sx (some (⟨b23, 0, none⟩ : Addr)) 5 s25.1 1 fun p26 =>
 ldT (.int .i64) p26 fun x27 =>
 brB (x27 != (20 : Int))
 (K false)
 (X24 ((IntKind.wrap .i64 (s25.1 + (1 : Int))), s25.2.1, ())))
 (jn (σ := Bool) (fun t29 =>
 jn (σ := Bool) (fun t31 =>
 jn (σ := Bool) (fun t33 =>
 brB t33
 (K false)
 (nw #[(.int .i64 (7 : Int))] ty_lits_Lit fun b34 =>
 nw #[(.int .i64 (7 : Int)), (.int .i64 (8 : Int))] ty_lits_Lit fun b35 =>
 nw #[(.int .i64 (-8 : Int)), (.int .i64 (9 : Int))] ty_lits_Lit fun b36 =>
 nw #[(.int .i64 (10 : Int)), (.int .i64 (11 : Int))] ty_lits_Lit fun b37 =>
 nw #[(.slice (some (⟨b35, 0, none⟩ : Addr)) 2 2), (.slice (some (⟨b36, 0, none⟩ : Addr)) 2 2), (.slice (some (⟨b37, 0, none⟩ : Addr)) 2 2)] ty_clauses_Clause fun b38 =>
 callT Try.prog fn_rup_Check #[(.slice (some (⟨b34, 0, none⟩ : Addr)) 1 1), (.slice (some (⟨b38, 0, none⟩ : Addr)) 3 3)] (.tup (.cons (.int .i64) (.cons (.int .i64) .nil))) fun r39 =>
 nw #[(.int .i64 (7 : Int))] ty_lits_Lit fun b40 =>
 nw #[(.int .i64 (7 : Int)), (.int .i64 (8 : Int))] ty_lits_Lit fun b41 =>
 nw #[(.int .i64 (8 : Int)), (.int .i64 (9 : Int))] ty_lits_Lit fun b42 =>
 nw #[(.slice (some (⟨b41, 0, none⟩ : Addr)) 2 2), (.slice (some (⟨b42, 0, none⟩ : Addr)) 2 2)] ty_clauses_Clause fun b43 =>
 callT Try.prog fn_rup_Check #[(.slice (some (⟨b40, 0, none⟩ : Addr)) 1 1), (.slice (some (⟨b43, 0, none⟩ : Addr)) 2 2)] (.tup (.cons (.int .i64) (.cons (.int .i64) .nil))) fun r44 =>
 jn (σ := Bool) (fun t46 =>
 jn (σ := Bool) (fun t48 =>
 jn (σ := Bool) (fun t50 =>
 K t50)
 (fun J49 =>
 brB t48
 (J49 ((r44.2.1 == (81 : Int))))
 (J49 false)))
 (fun J47 =>
 brB t46
 (J47 ((r44.1 == (1 : Int))))
 (J47 false)))
 (fun J45 =>
 brB (r39.1 == (2 : Int))
 (J45 ((r39.2.1 == (81 : Int))))
 (J45 false))))
 (fun J32 =>
 brB t31
 (J32 true)
 (nw #[(.int .i64 z)] ty_lits_Lit fun b51 =>
 callT Try.prog fn_rup_Right #[(.slice (some (⟨b51, 0, none⟩ : Addr)) 1 1)] .bool fun r52 =>
 J32 (r52))))
 (fun J30 =>
 brB t29
 (J30 true)
 (J30 ((r22.2.2.1 != (80 : Int))))))
 (fun J28 =>
 brB (r15.2.1 != (0 : Int))
 (J28 true)
 (J28 ((r17.2.2.2.1 != (80 : Int)))))))
 ((0 : Int), false, ())

theorem wrongTl_c {n2 : Heap} {mc : List Int} {l bad : List (List Int)} {r1 r2 r9 : Sl} {z : Int} {K : Bool → HP} (st : Hs [([], h)] G [] n2) (h1 : li mc r1 ∈ G) (h2 : lli l r2 ∈ G) (h3 : lli bad r9 ∈ G) (hc : rightC mc = true) (hcl : mc.length ≤ 6)
    (hr : ∀ d ∈ l, rightC d = true) (hl : l.length ≤ 8) (hbl : bad.length ≤ 9) (hbw : wrongP bad = true) (hfu : fuelP bad ≤ 1000000) (hz : rt z = false)
    (hK : ∀ x h', (x = true ∧ Ext [] h h') → K x h') : WrTl r1 r2 z r9 K n2 := by
  unfold WrTl
  have e1 : checkP mc bad = ([], 0, 20) := by unfold checkP; rw [hbw]; rfl
  have e2 : findP mc bad = ([], false, 20) := by unfold findP; rw [hbw]; rfl
  have rz : rightC [z] = false := by simp [rightC, hz]
  have oz : okA [z] = false := by simp [okA, hz]
  have e3 : trimP [z] l = ([], 20) := by
    have : checkP [z] l = ([], 0, 20) := by unfold checkP; rw [rz]; simp
    unfold trimP; rw [this]; rfl
  have e4 : followF [1, -1] bad = ([], 0, false, 20) := by unfold followF; rw [hbw]; rfl
  have e5 : followF [z] l = ([], 0, false, 80) := by unfold followF; rw [wrong_f hr, oz]; rfl
  have e6 : lookF [z] [z] = (0, 0, 20) := by unfold lookF; rw [rz]; rfl
  have e7 : lookF [3, 2, -3] mc = (0, 0, 80) := by unfold lookF; rw [hc, show okA [3, 2, -3] = false by decide]; rfl
  refine call_of (Check_c (st.fzm h1) (st.fzm h3) (by omega) (by omega)) ?_
  rintro _ h4 ⟨rfl, x4⟩
  have st := st.ext x4
  refine call_of (Find_c (st.fzm h1) (st.fzm h3) (by omega) (by omega) hfu) ?_
  rintro _ h5 ⟨s5, rfl, n5, x5⟩
  have st := st.ext x5
  rw [e1, e2]
  refine Hs.lit st [z] 1 rfl rfl fun b12 h6 st => ?_
  refine call_of (Trim_c (cs := l) st.fzL (st.fzm (by simp [h2])) (by simp) (by omega)) ?_
  rintro _ h7 ⟨s7, rfl, n7, x7⟩
  have st := st.ext x7
  rw [e3]
  refine Hs.lit st [1, -1] 2 rfl rfl fun b14 h8 st => ?_
  refine call_of (Follow_c (cs := bad) st.fzL (st.fzm (by simp [h3])) (by simp) (by omega)) ?_
  rintro _ h9 ⟨s9, rfl, n9, x9⟩
  have st := st.ext x9
  rw [e4]
  refine Hs.lit st [z] 1 rfl rfl fun b16 h10 st => ?_
  refine call_of (Follow_c (cs := l) st.fzL (st.fzm (by simp [h2])) (by simp) (by omega)) ?_
  rintro _ h11 ⟨s11, rfl, n11, x11⟩
  have st := st.ext x11
  rw [e5]
  refine Hs.lit st [z] 1 rfl rfl fun b18 h12 st => ?_
  have a18 := st.fzL
  have x12 := st
  refine Hs.lit st [z] 1 rfl rfl fun b19 h13 st => ?_
  refine call_of (Look_c (c := [z]) (A := [z]) (s := ⟨some ⟨b18, 0, none⟩, 1, 1⟩) (st.fzm (by simp)) st.fzL (by simp) (by simp)) ?_
  rintro _ h14 ⟨rfl, x14⟩
  have st := st.ext x14
  rw [e6]
  refine Hs.lit st [3, 2, -3] 3 rfl rfl fun b21 h15 st => ?_
  refine call_of (Look_c (c := mc) (A := [3, 2, -3]) (st.fzm (by simp [h1])) st.fzL (by omega) (by simp)) ?_
  rintro _ h16 ⟨rfl, x16⟩
  have st := st.ext x16
  rw [e7]
  refine Hs.lit st [20, 20, 20, 20, 20] 5 rfl rfl fun b23 h17 st => ?_
  generalize hG5 : G ++ [li [z] ⟨some ⟨b12, 0, none⟩, 1, 1⟩] ++ [li [1, -1] ⟨some ⟨b14, 0, none⟩, 2, 2⟩] ++ [li [z] ⟨some ⟨b16, 0, none⟩, 1, 1⟩] ++ [li [z] ⟨some ⟨b18, 0, none⟩, 1, 1⟩] ++ [li [z] ⟨some ⟨b19, 0, none⟩, 1, 1⟩] ++ [li [3, 2, -3] ⟨some ⟨b21, 0, none⟩, 3, 3⟩] = G5 at st
  refine lfp_invh (I := fun m σ h' => ∃ (i : Nat) (x : Bool), σ = ((i : Int), x, ()) ∧ i ≤ 5 ∧ m = 5 - i ∧ Hs [([], h)] (G5 ++ [li [20, 20, 20, 20, 20] ⟨some ⟨b23, 0, none⟩, 5, 5⟩]) [] h')
    ⟨_, 0, false, rfl, by omega, rfl, st⟩ ?_
  clear st a18 x12
  rintro m σ h18 X ⟨i, x, rfl, hi, rfl, st⟩ hX
  simp only
  by_cases hlt : i < 5
  · refine brT (decide_eq_true (by omega)) ?_
    refine rdE (τ := i64) (xs := [20, 20, 20, 20, 20]) (s := ⟨some ⟨b23, 0, none⟩, 5, 5⟩) st.fzL (i := i) (by simpa using hlt) ?_
    have e : ([20, 20, 20, 20, 20] : List Int)[i]'(by simpa using hlt) = 20 := by
      match i, hlt with
      | 0, _ => rfl
      | 1, _ => rfl
      | 2, _ => rfl
      | 3, _ => rfl
      | 4, _ => rfl
    rw [e]
    refine brF rfl ?_
    rw [inc_i (by omega)]
    exact hX _ _ _ ⟨i + 1, x, rfl, by omega, rfl, st⟩ (by omega)
  · refine brF (decide_eq_false (by omega)) ?_
    refine jn_in fun J hJ => brF rfl (hJ _ _ ?_)
    refine jn_in fun J hJ => brF rfl (hJ _ _ ?_)
    refine jn_in fun J hJ => brF rfl ?_
    refine Hs.lit st [z] 1 rfl rfl fun b51 h19 st => ?_
    refine call_of (Right_c st.fzL (by simp)) ?_
    rintro _ h20 ⟨rfl, x20⟩
    have st := st.ext x20
    rw [oz]
    refine hJ _ _ (brF rfl ?_)
    refine Hs.lit st [7] 1 rfl rfl fun b34 h21 st => ?_
    refine Hs.lit st [7, 8] 2 rfl rfl fun b35 h21 st => ?_
    refine Hs.lit st [-8, 9] 2 rfl rfl fun b36 h21 st => ?_
    refine Hs.lit st [10, 11] 2 rfl rfl fun b37 h21 st => ?_
    refine st.nw fun b38 h22 st => ?_
    refine call_of (Check_c (c := [7]) (s := ⟨some ⟨b34, 0, none⟩, 1, 1⟩) (st.fzm (by simp)) (lli_mk (st.blk 0 rfl) (ps := [⟨some ⟨b35, 0, none⟩, 2, 2⟩, ⟨some ⟨b36, 0, none⟩, 2, 2⟩, ⟨some ⟨b37, 0, none⟩, 2, 2⟩]) rfl rfl (cs := [[7, 8], [-8, 9], [10, 11]]) ⟨st.fzm (by simp), st.fzm (by simp), st.fzm (by simp), trivial⟩) (by decide) (by decide)) ?_
    rintro _ h23 ⟨rfl, x23⟩
    have st := (st.ext x23).drop 0 rfl
    rw [show checkP [7] [[7, 8], [-8, 9], [10, 11]] = ([], 2, 81) by decide +kernel]
    refine Hs.lit st [7] 1 rfl rfl fun b40 h21 st => ?_
    refine Hs.lit st [7, 8] 2 rfl rfl fun b41 h21 st => ?_
    refine Hs.lit st [8, 9] 2 rfl rfl fun b42 h21 st => ?_
    refine st.nw fun b43 h22 st => ?_
    refine call_of (Check_c (c := [7]) (s := ⟨some ⟨b40, 0, none⟩, 1, 1⟩) (st.fzm (by simp)) (lli_mk (st.blk 0 rfl) (ps := [⟨some ⟨b41, 0, none⟩, 2, 2⟩, ⟨some ⟨b42, 0, none⟩, 2, 2⟩]) rfl rfl (cs := [[7, 8], [8, 9]]) ⟨st.fzm (by simp), st.fzm (by simp), trivial⟩) (by decide) (by decide)) ?_
    rintro _ h23 ⟨rfl, x23⟩
    have st := st.ext x23
    rw [show checkP [7] [[7, 8], [8, 9]] = ([], 1, 81) by decide +kernel]
    refine jn_in fun J hJ => brT rfl (hJ _ _ ?_)
    refine jn_in fun J hJ => brT rfl (hJ _ _ ?_)
    refine jn_in fun J hJ => brT rfl (hJ _ _ ?_)
    exact hK _ _ ⟨rfl, st.frame (by simp)⟩

set_option maxRecDepth 4000 in
theorem rupWrong_F {x3 at_ : Int} (hA : At h (l8 c s)) (hB : At h (ll8 cs s2)) (hw : 0 ≤ at_ ∧ at_ < 256) (K : Bool → HP) (hK : ∀ x h', (x = true ∧ Ext [] h h') → K x h') : F_salvorlaw08_RupWrong s s2 x3 at_ K h := by
  unfold F_salvorlaw08_RupWrong
  have st := Hs.start h [l8 c s, ll8 cs s2] (by simp [hA, hB])
  refine call_of (awake_c h) ?_
  rintro _ h1 ⟨rfl, x1⟩
  refine brF rfl ?_
  have st := st.ext x1
  refine call_of (Made_c (st.fz 0 rfl)) ?_
  rintro r1 h2 ⟨n2, x2⟩
  have st := (st.new x2 n2).froz 0 rfl
  refine call_of (All_c (m := 8) (st.fz 1 rfl) (by decide)) ?_
  rintro r2 h3 ⟨n3, x3⟩
  obtain ⟨ps, lp, st⟩ := Hs.rowsF (st.new x3 n3) 0 rfl
  have hc := madeR_right c
  have hr := allR_right cs 8
  have hl := allR_len cs 8
  have hcl := madeR_len c
  have hml : ∀ d ∈ allR cs 8, d.length ≤ 6 := fun d hd => by obtain ⟨d', rfl⟩ := allR_mem hd; exact madeR_len _
  generalize madeR c = mc at *
  generalize allR cs 8 = l at *
  simp only [List.cons_append, List.nil_append, List.eraseIdx_cons_zero] at st
  generalize hGG : (l8 c s :: ll8 cs s2 :: rsl i64.enc mc r1 :: rsl Ty.sl.enc ps r2 :: lli l r2 :: rows l ps) = G1 at st
  have g2 : li mc r1 ∈ G1 := by rw [← hGG]; simp
  have g3 : rsl Ty.sl.enc ps r2 ∈ G1 := by rw [← hGG]; simp
  have g4 : lli l r2 ∈ G1 := by rw [← hGG]; simp
  have hrows : ∀ q ∈ l.zip ps, li q.1 q.2 ∈ G1 := fun q hq => by
    rw [← hGG]
    have := zip_rows hq
    simp [this]
  clear hGG
  have lr2 : r2.len = l.length := rsg_len (st.fzm g4)
  refine call_of (lits_Right_c _) ?_
  rintro _ h4 ⟨rfl, e⟩; subst e
  refine jn_mid (M := fun σ h' => ∃ z : Int, σ = (z, ()) ∧ rt z = false ∧ h' = h4) ?_ ?_
  rotate_left
  · intro J hJ
    cases hx : rt _
    · exact brF rfl (hJ _ _ ⟨_, rfl, hx, rfl⟩)
    · exact brT rfl (hJ _ _ ⟨0, rfl, by decide, rfl⟩)
  rintro _ h5 ⟨z, rfl, hz, e⟩; subst e
  simp only
  have e1 : IntKind.wrap .i64 ((r2.len : Int) + 1) = ((l.length + 1 : Nat) : Int) := by rw [lr2, inc_i (by omega)]
  rw [e1]
  refine ⟨by omega, ?_⟩
  obtain ⟨k, hk, hkl⟩ : ∃ k : Nat, Int.tmod (IntKind.wrap .i64 at_) ((l.length + 1 : Nat) : Int) = k ∧ k ≤ l.length := by
    rw [wrap_i64 (by omega) (by omega), Int.tmod_eq_emod_of_nonneg (by omega)]
    have h1 := Int.emod_nonneg at_ (show ((l.length + 1 : Nat) : Int) ≠ 0 by omega)
    have h2 := Int.emod_lt_of_pos at_ (show (0 : Int) < ((l.length + 1 : Nat) : Int) by omega)
    exact ⟨(at_ % ((l.length + 1 : Nat) : Int)).toNat, by omega, by omega⟩
  rw [hk]
  have tail : ∀ {G2 : List Asn} {h' : Heap} {b7 : Nat} {r9 : Sl}, (∀ A ∈ G1, A ∈ G2) → li [1, z] ⟨some ⟨b7, 0, none⟩, 2, 2⟩ ∈ G2 → Hs [([], h)] G2 [osl ty_clauses_Clause Ty.sl.enc (ps.take k ++ ⟨some ⟨b7, 0, none⟩, 2, 2⟩ :: ps.drop k) r9] h' → WrTl r1 r2 z r9 K h' := by
    intro G2 h' b7 r9 hsub hb st
    have hps : (ps.take k).length = k := by simp; omega
    have hlk : (l.take k).length = k := by simp; omega
    have st := (st.froz 0 rfl)
    simp only [List.eraseIdx_cons_zero] at st
    have st := Hs.gainRows (l := l.take k ++ [1, z] :: l.drop k) st (by simp : rsl Ty.sl.enc (ps.take k ++ ⟨some ⟨b7, 0, none⟩, 2, 2⟩ :: ps.drop k) r9 ∈ _) (by simp; omega) (fun q hq => by
      rw [List.zip_append (by omega), List.zip_cons_cons] at hq
      refine List.mem_append_left _ ?_
      rcases List.mem_append.1 hq with hq | hq
      · exact hsub _ (hrows _ (zip_take hq))
      · rcases List.mem_cons.1 hq with rfl | hq
        · exact hb
        · exact hsub _ (hrows _ (zip_drop hq)))
    have lb : (l.take k ++ [1, z] :: l.drop k).length = l.length + 1 := by simp; omega
    refine wrongTl_c st (by simp [hsub _ g2]) (by simp [hsub _ g4]) (by simp : lli (l.take k ++ [1, z] :: l.drop k) r9 ∈ _) hc hcl hr hl (by omega) ?_ ?_ hz hK
    · unfold wrongP
      rw [List.all_append, List.all_cons, show rightC [1, z] = false by simp [rightC, hz]]; simp
    · refine fuel_small (by omega) fun d hd => ?_
      rcases List.mem_append.1 hd with hd | hd
      · exact hml d (List.mem_of_mem_take hd)
      · rcases List.mem_cons.1 hd with rfl | hd
        · simp
        · exact hml d (List.mem_of_mem_drop hd)
  have lpp : ps.length ≤ 1048576 := by omega
  refine ⟨?_, ?_⟩
  · refine cloneG_c st (st.fzm g3) lpp fun r6 h6 st => ?_
    refine Hs.lit st [1, z] 2 rfl rfl fun b7 h7 st => ?_
    refine st.nw fun b8 h8 st => ?_
    refine Hs.insG (p := ⟨some ⟨b7, 0, none⟩, 2, 2⟩) st 0 1 rfl rfl (by decide) (i := k) (by omega) lpp fun r9 h9 st => ?_
    have st := st.drop 1 rfl
    exact tail (fun A hA => List.mem_append_left _ hA) (by simp) st
  · refine Hs.lit st [1, z] 2 rfl rfl fun b7 h7 st => ⟨?_, ?_⟩
    · refine cloneG_c st (st.fzm (by simp [g3])) lpp fun r6 h6 st => ?_
      refine st.nw fun b8 h8 st => ?_
      refine Hs.insG (p := ⟨some ⟨b7, 0, none⟩, 2, 2⟩) st 0 1 rfl rfl (by decide) (i := k) (by omega) lpp fun r9 h9 st => ?_
      have st := st.drop 1 rfl
      exact tail (fun A hA => List.mem_append_left _ hA) (by simp) st
    · refine st.nw fun b8 h8 st => ?_
      refine cloneG_c st (st.fzm (by simp [g3])) lpp fun r6 h6 st => ?_
      refine Hs.insG (p := ⟨some ⟨b7, 0, none⟩, 2, 2⟩) st 1 0 rfl rfl (by decide) (i := k) (by omega) lpp fun r9 h9 st => ?_
      have st := st.drop 0 rfl
      exact tail (fun A hA => List.mem_append_left _ hA) (by simp) st

end Go.Proofs.S
