/-
  The package rup: Find: contract.
-/
import Derived.Test.YtjkgncibelojnaaGreatRuC
import Derived.Test.YtjkgncibelojnaaGreatSxW3
import Derived.Test.YtjkgncibelojnaaGreatSxG
set_option linter.unusedVariables false
set_option linter.unusedSimpArgs false
namespace Go.Sx
open Go
variable {h : Heap} {τ : Ty} {xs : List τ.T} {s : Sl}
theorem rdP (hA : At h (rsl τ.enc xs s)) {i : Nat} (hi : i < xs.length) {K : Addr → τ.T → HP} (hK : ∀ a, s.a = some a → K (a.add i) xs[i] h) : sx s.a s.len (i : Int) 1 (fun p => ldT τ p (K p)) h := by
  obtain ⟨a, ea, hc⟩ := rsl_cells hA (List.getElem?_eq_getElem hi)
  refine ⟨a, ea, by omega, by rw [rsl_len hA]; omega, xs[i], by simpa using hc, ?_⟩
  have := hK a ea
  simpa using this
theorem ckP (hA : At h (rsl τ.enc xs s)) {a : Addr} (ea : s.a = some a) {i : Nat} (hi : i < xs.length) {K : HP} (hK : K h) : Sx.ck (a.add i) (τ.enc xs[i]) K h := by
  obtain ⟨a', ea', hc⟩ := rsl_cells hA (List.getElem?_eq_getElem hi)
  rw [ea] at ea'; cases ea'
  exact ⟨hc, hK⟩
end Go.Sx
namespace Go.Proofs.S
open Go Go.Sx Go.Proofs Go.Cl Go.Rp
variable {h : Heap} {c d A us : List Int} {cs ds hs : List (List Int)} {s s2 : Sl} {fr : Fr} {G As : List Asn} {b : Nat}
def FindTl (us : Sl) (x : Int) (vv : Value) (T Hh : Sl) (X : (Sl × (Sl × (Sl × (Int × (Bool × (Sl × Unit)))))) → HP) (r : Int × Bool × Sl × Unit) (K : (Sl × (Bool × (Int × Unit))) → HP) : HP :=
 brB (x == (0 : Int))
 (callT Tryz.prog fn_rup_needed #[(.slice Hh.a Hh.len Hh.cap), (.slice us.a us.len us.cap)] .sl fun r16 =>
 lfp (σ := (Int × (Sl × Unit))) (fun X17 s18 =>
 brB (decide (s18.1 < (r16.len : Int)))
 (sx r16.a r16.len s18.1 1 fun p19 =>
 ldT (.int .i64) p19 fun x20 =>
 sx T.a T.len x20 1 fun p21 =>
 ldT (.int .i64) p21 fun x22 =>
 nw #[(.int .i64 x22)] ty_int fun b23 =>
 apd ty_int 1 8 #[(.int .i64 (0 : Int))] ⟨s18.2.1.a, s18.2.1.len, s18.2.1.cap⟩ ⟨(some (⟨b23, 0, none⟩ : Addr)), 1, 1⟩ fun s24 =>
 X17 ((IntKind.wrap .i64 (s18.1 + (1 : Int))), ⟨s24.a, s24.len, s24.cap⟩, ()))
 (K (⟨s18.2.1.a, s18.2.1.len, s18.2.1.cap⟩, true, (0 : Int), ())))
 ((0 : Int), ⟨none, 0, 0⟩, ()))
 (nw #[(.int .i64 x)] ty_lits_Lit fun b25 =>
 apd ty_lits_Lit 1 8 #[(.int .i64 (0 : Int))] ⟨us.a, us.len, us.cap⟩ ⟨(some (⟨b25, 0, none⟩ : Addr)), 1, 1⟩ fun s26 =>
 callT Tryz.prog fn_rup_values_put #[vv, (.int .i64 x)] (.tup .nil) fun r27 =>
 X (⟨s26.a, s26.len, s26.cap⟩, ⟨Hh.a, Hh.len, Hh.cap⟩, ⟨T.a, T.len, T.cap⟩, r.1, r.2.1, ⟨r.2.2.1.a, r.2.2.1.len, r.2.2.1.cap⟩, ()))
abbrev hdrs (ps : List Sl) (taken : List Nat) : List Sl := taken.map fun i => ps.getD i ⟨none, 0, 0⟩
abbrev nio (xs : List Nat) (s : Sl) : Asn := iox (nats xs) s
abbrev hio (ps : List Sl) (taken : List Nat) (s : Sl) : Asn := osl ty_clauses_Clause Ty.sl.enc (hdrs ps taken) s
theorem hdrs_lli {ps : List Sl} {taken : List Nat} (hp : ps.length = cs.length) (ht : ∀ i ∈ taken, i < cs.length) (ho : At h (rsl Ty.sl.enc (hdrs ps taken) s)) (hr : ∀ i (h1 : i < cs.length) (h2 : i < ps.length), At h (li cs[i] ps[i])) :
    At h (lli (taken.map fun i => cs.getD i []) s) := by
  refine rsg_at (ps := hdrs ps taken) (by simp) ho fun i h1 h2 => ?_
  simp at h1
  have := ht _ (List.getElem_mem h1)
  simp only [hdrs, List.getElem_map]
  rw [getD_lt this, getD_lt (by omega)]
  exact hr _ _ _
theorem rise_len {m : Nat} : ∀ {L : List Nat} {n : Nat}, L.Pairwise (· < ·) → (∀ x ∈ L, n ≤ x ∧ x < m) → L.length + n ≤ m ∨ L = []
  | [], n, _, _ => .inr rfl
  | x :: L, n, h, hx => by
    obtain ⟨a, b⟩ := List.pairwise_cons.1 h
    have h1 := hx x (by simp)
    rcases rise_len (n := n + 1) b (fun y hy => ⟨by have := a y hy; omega, (hx y (by simp [hy])).2⟩) with h2 | h2
    · exact .inl (by simp; omega)
    · subst h2; exact .inl (by simp; omega)
theorem Find_c (hA : At h (li c s)) (hB : At h (lli cs s2)) (hl : c.length ≤ 1048576) (hl2 : cs.length ≤ 1048576) (hf : fuelP cs ≤ 1000000) :
    callT Tryz.prog fn_rup_Find #[.slice s.a s.len s.cap, .slice s2.a s2.len s2.cap] (.tup (.cons .sl (.cons .bool (.cons (.int .i64) .nil))))
      (fun r h' => ∃ s', r = (s', (findP c cs).2.1, (findP c cs).2.2, ()) ∧ New h.size h' (nio (findP c cs).1 s') ∧ Ext [] h h') h := by
  refine callT_gen fun K hK => S_rup_Find (a0 := s) (a1 := s2) K ?_
  unfold F_rup_Find
  obtain ⟨ps, lp, hps, hrow⟩ := lli_open hB
  let GG : List Asn := li c s :: lli cs s2 :: rsl Ty.sl.enc ps s2 :: rows cs ps
  have st : Hs [([], h)] GG [] h := Hs.start h GG (by
    intro A hA'
    simp only [GG, List.mem_cons] at hA'
    rcases hA' with rfl | rfl | rfl | hA'
    · exact hA
    · exact hB
    · exact hps
    · exact rows_at lp hrow _ hA')
  refine st.nw fun b0 h1 st => ?_
  refine call_of (wrong_c (st.fz 1 rfl) (lli_one (st.blk 0 rfl) (st.fz 0 rfl)) hl2 (by simp)) ?_
  rintro _ h2 ⟨rfl, x2⟩
  have st := (st.ext x2).drop 0 rfl
  have ew : wrongP (cs ++ [c]) = (wrongP cs || !rightC c) := by
    unfold wrongP; rw [List.all_append, Bool.not_and]; simp
  rw [ew]
  refine call_of (many_c (st.fz 1 rfl)) ?_
  rintro _ h3 ⟨rfl, e⟩; subst e
  refine first2_c st fun h4 st => ?_
  have bad : ∀ {ok : Bool} {e : Int} {h'} {As : List Asn}, Hs [([], h)] GG As h' → findP c cs = ([], ok, e) → K (⟨none, 0, 0⟩, ok, e, ()) h' := by
    intro ok e h' As st he
    exact hK _ _ ⟨⟨none, 0, 0⟩, by rw [he], by rw [he]; exact osl_nil _ _, st.frame (by simp)⟩
  cases hw : (wrongP cs || !rightC c)
  rotate_left
  · simp only [if_true]
    refine brT rfl (bad st ?_)
    unfold findP; rw [hw]; rfl
  simp only [Bool.false_eq_true, if_false, ne_eq, not_true]
  rw [Bool.or_eq_false_iff, Bool.not_eq_false'] at hw
  by_cases hm : cs.length > 65536
  · rw [if_pos hm]
    refine brT rfl (bad st ?_)
    unfold findP; rw [hw.1, hw.2, if_neg (by simp), if_pos hm]
  rw [if_neg hm]
  refine brF rfl ?_
  refine call_of (Assume_c (st.fz 0 rfl) (by omega)) ?_
  rintro _ h5 ⟨s5, rfl, n5, x5⟩
  have st := st.new x5 n5
  cases ha : alwaysC c
  rotate_left
  · have eS : assumeP c = ([], true, 0) := by unfold assumeP; rw [hw.2, ha]; rfl
    rw [eS] at st ⊢
    refine brT rfl (bad st ?_)
    unfold findP; rw [hw.1, hw.2, if_neg (by simp), if_neg hm, ha]; rfl
  have eS : assumeP c = (negs c, false, 0) := by unfold assumeP; rw [hw.2, ha]; rfl
  rw [eS] at st ⊢
  refine brF rfl ?_
  have hno := okA_negs hw.2 ha
  have hnl : (negs c).length ≤ 4096 := by
    unfold negs; rw [List.length_map]; have := nrm_length c; have := rightC_len hw.2; omega
  refine assigned_c st (st.own 0 rfl).rsl (by show (negs c).length ≤ _; omega) (fun ho bv h6 st => ?_) (fun ho => by rw [hno] at ho; cases ho)
  have hright := all_right hw.1
  have hrt := right_rt hw.1
  have eF : findP c cs = match findGo cs (fuelP cs) (negs c) [] [] with
    | none => ([], false, 0)
    | some (taken, units) => ((neededP (taken.map fun i => cs.getD i []) units).map fun k => taken.getD k 0, true, 0) := by
    unfold findP; rw [hw.1, hw.2, if_neg (by simp), if_neg hm, ha, if_neg (by simp)]
    cases findGo cs (fuelP cs) (negs c) [] [] <;> rfl
  have st := st.drop 0 rfl
  have st := st.nil ty_lits_Lit i64.enc none
  have st := st.nil ty_clauses_Clause Ty.sl.enc none
  have st := st.nil ty_int i64.enc none
  refine lfp_invh (I := fun m σ h' => ∃ (n : Nat) (taken : List Nat) (units : List Int) (u Hh T : Sl) (r : Int × Bool × Sl × Unit), σ = (u, Hh, T, r) ∧ m = n ∧ meas (negs c ++ units) cs < n ∧ Run (negs c) cs taken units ∧
      findGo cs n (negs c ++ units) taken units = findGo cs (fuelP cs) (negs c) [] [] ∧ taken.length + n ≤ fuelP cs ∧
      Hs [([], h)] GG [vals bv (negs c ++ units), lo units u, hio ps taken Hh, nio taken T] h')
    ⟨_, fuelP cs, [], [], ⟨none, 0, 0⟩, ⟨none, 0, 0⟩, ⟨none, 0, 0⟩, _, rfl, rfl, meas_le _ _, Run.nil hno, by rw [List.append_nil], by simp, by rw [List.append_nil]; exact st⟩ ?_
  rintro m σ h' X ⟨n, taken, units, u, Hh, T, r, rfl, rfl, hme, run, hg, hbud, st⟩ hX
  simp only
  obtain ⟨n, rfl⟩ : ∃ n', m = n' + 1 := ⟨m - 1, by omega⟩
  simp only [findGo] at hg
  refine call_of (next_c (st.own 0 rfl) (st.fz 1 rfl) run.ok hright hl2) ?_
  rintro _ h7 ⟨rfl, x7⟩
  have st := st.ext x7
  unfold nextR
  cases hn : nextP (negs c ++ units) cs with
  | none =>
    simp only [hn] at hg ⊢
    refine brT (by simp) (bad st ?_)
    rw [eF, ← hg]
  | some p =>
    obtain ⟨i, x⟩ := p
    simp only [hn] at hg ⊢
    obtain ⟨hi, hmv⟩ := next_some hn
    refine brF (decide_eq_false (by show ¬ ((i : Int) < 0); omega)) ?_
    have hip : i < ps.length := by omega
    refine rdP (τ := .sl) (st.fz 2 rfl) hip fun a ea => ?_
    -- what is done with it
    have tail : ∀ (T' H' : Sl) (h' : Heap), Hs [([], h)] GG [vals bv (negs c ++ units), lo units u, hio ps (taken ++ [i]) H', nio (taken ++ [i]) T'] h' → FindTl u x (.map (some bv)) T' H' X r K h' := by
      intro T' H' h8 st
      unfold FindTl
      have hall : ∀ k ∈ taken ++ [i], k < cs.length := by
        intro k hk
        rcases List.mem_append.1 hk with hk | hk
        · exact run.lt k hk
        · simp at hk; omega
      by_cases hx : x = 0
      · rw [if_pos hx] at hg
        refine brT (by simpa using hx) ?_
        have hrow' : ∀ i (h1 : i < cs.length) (h2 : i < ps.length), At h8 (li cs[i] ps[i]) := fun i h1 h2 => st.fzm (List.mem_cons_of_mem _ (List.mem_cons_of_mem _ (List.mem_cons_of_mem _ (rows_mem h1 h2))))
        refine call_of (needed_c (hdrs_lli lp hall (st.own 2 rfl).rsl hrow') (st.own 1 rfl).rsl ?_ (by simp; omega) (by have := run.len; omega)) ?_
        · intro d hd
          rw [List.mem_map] at hd
          obtain ⟨k, hk, rfl⟩ := hd
          rw [getD_lt (hall k hk)]
          exact hright _ (List.getElem_mem _)
        rintro r16 h9 ⟨n9, x9⟩
        have st := st.new x9 n9
        have st := st.nil ty_int i64.enc none
        have hnd := fun k (hk : k ∈ neededP ((taken ++ [i]).map fun i => cs.getD i []) units) => (mem_needed.1 hk).lt
        have hlen : (neededP ((taken ++ [i]).map fun i => cs.getD i []) units).length ≤ (taken ++ [i]).length := by
          have := rise_len (n := 0) (m := (taken ++ [i]).length) (sorted_needed ((taken ++ [i]).map fun i => cs.getD i []) units) fun k hk => ⟨by omega, by simpa using hnd k hk⟩
          rcases this with h1 | h1
          · omega
          · rw [h1]; simp
        generalize eN : neededP ((taken ++ [i]).map fun i => cs.getD i []) units = N at *
        have ls := osl_len (st.own 4 rfl)
        have lT := osl_len (st.own 3 rfl)
        simp only [nats, List.length_map] at ls lT
        refine lfp_invh (I := fun m σ h' => ∃ (j : Nat) (o : Sl), σ = ((j : Int), o, ()) ∧ j ≤ N.length ∧ m = N.length - j ∧
            Hs [([], h)] GG [vals bv (negs c ++ units), lo units u, hio ps (taken ++ [i]) H', nio (taken ++ [i]) T', nio N r16, nio ((N.take j).map fun k => (taken ++ [i]).getD k 0) o] h')
          ⟨_, 0, ⟨none, 0, 0⟩, rfl, by omega, rfl, st⟩ ?_
        rintro m σ h' X2 ⟨j, o, rfl, hj, rfl, st⟩ hX2
        simp only
        by_cases hjl : j < N.length
        · refine brT (by rw [ls]; exact decide_eq_true (by omega)) ?_
          refine rdE (τ := i64) (st.own 4 rfl).rsl (i := j) (by simpa [nats] using hjl) ?_
          have hk := hnd N[j] (List.getElem_mem hjl)
          simp only [List.length_map] at hk
          have e1 : (nats N)[j]'(by simpa [nats] using hjl) = ((N[j] : Nat) : Int) := by simp [nats]
          rw [e1]
          refine rdE (τ := i64) (st.own 3 rfl).rsl (i := N[j]) (by simpa [nats] using hk) ?_
          have e2 : (nats (taken ++ [i]))[N[j]]'(by simpa [nats] using hk) = (((taken ++ [i]).getD N[j] 0 : Nat) : Int) := by
            rw [getD_lt hk]; simp only [nats, List.getElem_map]
          rw [e2]
          refine st.nw fun b23 h10 st => ?_
          refine st.apd 5 6 rfl rfl (by decide) rfl (by simp at hlen ⊢; omega) (by decide) rfl fun s24 h11 st => ?_
          have st := st.drop 6 rfl
          rw [inc_i (by simp at hlen; omega)]
          refine hX2 _ _ _ ⟨j + 1, s24, rfl, by omega, rfl, ?_⟩ (by omega)
          have e3 : nats ((N.take j).map fun k => (taken ++ [i]).getD k 0) ++ [(((taken ++ [i]).getD N[j] 0 : Nat) : Int)] = nats ((N.take (j + 1)).map fun k => (taken ++ [i]).getD k 0) := by
            rw [take_lt hjl]; simp only [nats, List.map_append, List.map_cons, List.map_nil]
          have st := st
          rw [show osl ty_int i64.enc (nats ((N.take j).map fun k => (taken ++ [i]).getD k 0) ++ [(((taken ++ [i]).getD N[j] 0 : Nat) : Int)]) s24 = nio ((N.take (j + 1)).map fun k => (taken ++ [i]).getD k 0) s24 from by rw [e3]] at st
          exact st
        · refine brF (by rw [ls]; exact decide_eq_false (by omega)) ?_
          have : j = N.length := by omega
          subst this
          rw [List.take_length] at st
          have st := ((((st.drop 4 rfl).drop 3 rfl).drop 2 rfl).drop 1 rfl).drop 0 rfl
          have e : findP c cs = (N.map fun k => (taken ++ [i]).getD k 0, true, 0) := by rw [eF, ← hg]; show (List.map _ (neededP _ _), _, _) = _; rw [eN]
          exact hK _ _ ⟨o, by rw [e], by rw [e]; exact st.res (by simp) 0 rfl, st.frame (by simp)⟩
      · rw [if_neg hx] at hg
        refine brF (by simpa using hx) ?_
        have h3 := hmv.resolve_left (fun k => hx k.1)
        obtain ⟨u1, u2, u3, u4⟩ := look_unit.1 h3
        have hxr := hrt _ (List.getElem_mem hi) _ u2
        have hml := meas_lt (A := negs c ++ units) (l := cs) (x := x) (List.mem_flatten.2 ⟨_, List.getElem_mem hi, u2⟩) (u1 x u2) u3
        refine st.nw fun b25 h9 st => ?_
        refine st.apd 1 4 rfl rfl (by decide) rfl (by have := run.len; omega) (by decide) rfl fun s26 h10 st => ?_
        have st := st.drop 4 rfl
        refine Hs.putV st 0 rfl hxr u3 fun h11 st => ?_
        rw [List.append_assoc] at hml hg
        refine hX _ _ _ ⟨n, taken ++ [i], units ++ [x], s26, H', T', r, rfl, rfl, by omega, run.snoc hrt hi h3, hg, by simp; omega, ?_⟩ (by omega)
        rw [← List.append_assoc]; exact st
    -- the three orders
    have eH : hdrs ps taken ++ [ps[i]] = hdrs ps (taken ++ [i]) := by simp only [hdrs, List.map_append, List.map_cons, List.map_nil]; rw [getD_lt hip]
    have eT : nats taken ++ [(i : Int)] = nats (taken ++ [i]) := by simp [nats]
    have ltk := run.len
    have lh : (hdrs ps taken).length = taken.length := by simp [hdrs]
    have ln : (nats taken).length = taken.length := by simp [nats]
    refine ⟨?_, ?_⟩
    · refine st.nw fun b12 h8 st => ⟨?_, ?_⟩
      · refine st.apd 3 4 rfl rfl (by decide) rfl (by omega) (by decide) rfl fun s13 h9 st => ?_
        have st := st.drop 4 rfl
        refine ckP (τ := .sl) (st.fz 2 rfl) ea hip ?_
        refine st.nw fun b14 h10 st => ?_
        refine st.apd 2 4 rfl rfl (by decide) rfl (by omega) (by decide) rfl fun s15 h11 st => ?_
        have st := st.drop 4 rfl
        rw [eH, eT] at st
        exact tail s13 s15 _ st
      · refine st.nw fun b28 h9 st => ?_
        refine st.apd 3 4 rfl rfl (by decide) rfl (by omega) (by decide) rfl fun s29 h10 st => ?_
        have st := st.drop 4 rfl
        refine ckP (τ := .sl) (st.fz 2 rfl) ea hip ?_
        refine st.apd 2 4 rfl rfl (by decide) rfl (by omega) (by decide) rfl fun s30 h11 st => ?_
        have st := st.drop 4 rfl
        rw [eH, eT] at st
        exact tail s29 s30 _ st
    · refine st.nw fun b43 h8 st => ?_
      refine st.nw fun b44 h9 st => ?_
      refine st.apd 3 5 rfl rfl (by decide) rfl (by omega) (by decide) rfl fun s45 h10 st => ?_
      have st := st.drop 5 rfl
      refine ckP (τ := .sl) (st.fz 2 rfl) ea hip ?_
      refine st.apd 2 4 rfl rfl (by decide) rfl (by omega) (by decide) rfl fun s46 h11 st => ?_
      have st := st.drop 4 rfl
      rw [eH, eT] at st
      exact tail s45 s46 _ st
end Go.Proofs.S
namespace Go.Proofs.S
open Go Go.Sx Go.Proofs Go.Cl Go.Rp
variable {h : Heap} {c d A us : List Int} {cs ds hs : List (List Int)} {s s2 : Sl} {fr : Fr} {G As : List Asn} {b n : Nat} {t : TypeId}
theorem Hs.lit (st : Hs fr G As h) (xs : List Int) {vs : Array Value} (n : Nat) (hn : n = xs.length) (hvs : vs.toList = xs.map i64.enc) {K : Nat → HP}
    (hK : ∀ b h', Hs fr (G ++ [li xs ⟨some ⟨b, 0, none⟩, n, n⟩]) As h' → K b h') : Sx.nw vs t K h := by
  subst hn
  refine st.nw fun b h1 st => ?_
  rw [hvs] at st
  have st := st.asSl As.length i64.enc xs (lastA _ _) rfl
  have st := st.froz As.length (by rw [List.getElem?_set_self (by simp)])
  rw [List.set_append_right _ _ (Nat.le_refl _), Nat.sub_self, List.set_cons_zero, List.eraseIdx_append_of_length_le (Nat.le_refl _), Nat.sub_self, List.eraseIdx_cons_zero, List.append_nil] at st
  exact hK b h1 st
def AllAt (h : Heap) : List (List Int) → List Sl → Prop
  | [], [] => True
  | c :: cs, p :: ps => At h (li c p) ∧ AllAt h cs ps
  | _, _ => False
theorem AllAt.len : ∀ {cs : List (List Int)} {ps : List Sl}, AllAt h cs ps → ps.length = cs.length
  | [], [], _ => rfl
  | c :: cs, p :: ps, ⟨_, k⟩ => by simp [AllAt.len k]
  | [], _ :: _, k => k.elim
  | _ :: _, [], k => k.elim
theorem AllAt.get : ∀ {cs : List (List Int)} {ps : List Sl}, AllAt h cs ps → ∀ i (h1 : i < cs.length) (h2 : i < ps.length), At h (li cs[i] ps[i])
  | c :: cs, p :: ps, ⟨k, _⟩, 0, _, _ => k
  | c :: cs, p :: ps, ⟨_, k⟩, i + 1, h1, h2 => AllAt.get k i (Nat.lt_of_succ_lt_succ h1) (Nat.lt_of_succ_lt_succ h2)
  | [], _, _, i, h1, _ => by simp at h1
  | _ :: _, [], k, _, _, _ => k.elim
end Go.Proofs.S
namespace Go.Sx
open Go
section
variable {P : Program} {h h' : Heap} {s : Sl}
end
section
variable {α : Type} {enc : α → List Value} {xs : List α} {s : Sl} {fr : Fr} {G As : List Asn} {h : Heap} {t : TypeId}
end
end Go.Sx
