/-
  The package rat: Search: contract.
-/
import Derived.Test.YtjkgncibelojnaaGreatRaE
import Derived.Test.YtjkgncibelojnaaGreatRtT
set_option linter.unusedVariables false
set_option linter.unusedSimpArgs false
namespace Go.Sx
open Go
theorem Hs.fzNew {fr : Fr} {G As Bs : List Asn} {h h' : Heap} (st : Hs fr G As h) (x : Ext [] h h') (hB : ∀ B ∈ Bs, New h.size h' B) : Hs fr (G ++ Bs) As h' := by
  obtain ⟨S, hs, hz, hf⟩ := st
  refine ⟨S, hs.keep x.1 (fun b hb => x.2 b (hs.cel b hb).lt (by simp)), fun A hA => ?_, fun p hp => ⟨(hf p hp).1.nil_trans x, (hf p hp).2⟩⟩
  rcases List.mem_append.1 hA with k | k
  · obtain ⟨S1, p, d⟩ := hz A k
    exact ⟨S1, Asn.ext p x (by simp), d⟩
  · obtain ⟨S1, p, q⟩ := hB A k
    exact ⟨S1, p, fun b hb hin => by have := q b hb; have := (hs.cel b hin).lt; omega⟩
theorem New.toA {n m : Nat} {h : Heap} {A : Asn} (hA : New n h A) (hn : m ≤ n) : New n h (Sx.newA m A) := let ⟨S, p, q⟩ := hA; ⟨S, ⟨p, fun b hb => Nat.le_trans hn (q b hb)⟩, q⟩
end Go.Sx
namespace Go.Proofs.S
open Go Go.Sx Go.Proofs Go.Cl Go.Rp Go.Rt
variable {h : Heap} {c d A ids : List Int} {l : List Ent} {gs : List Grp} {s s2 sc : Sl} {fr : Fr} {G As : List Asn} {id p : Int} {b2 b3 b4 b5 : Nat} {x y z : Sl} {kd e : Int} {ok : Bool}
abbrev stpC (b : Nat) (x y z : Sl) : Asn := cl b ty_rat_Step [.slice x.a x.len x.cap, .slice y.a y.len y.cap, .slice z.a z.len z.cap]
abbrev kdC (b : Nat) (k : Int) : Asn := cl b ty_uint8 [.int .u8 k]
abbrev okC (b : Nat) (k : Bool) : Asn := cl b ty_bool [.bool k]
abbrev erC (b : Nat) (k : Int) : Asn := cl b ty_api_Errno [.int .i64 k]
theorem outW {v1 v2 v3 v4 v5 v6 : Value} {K : HP} (x y z : Sl) (st : Hs fr G (cl b2 ty_rat_Step [v1, v2, v3] :: cl b3 ty_uint8 [v4] :: cl b4 ty_bool [v5] :: cl b5 ty_api_Errno [v6] :: As) h)
    (hK : ∀ h', Hs fr G (stpC b2 x y z :: kdC b3 kd :: okC b4 ok :: erC b5 e :: As) h' → K h') :
    (st1 (⟨b2, 0, none⟩ : Addr) (.slice x.a x.len x.cap) <| st1 ((⟨b2, 0, none⟩ : Addr).add 1) (.slice y.a y.len y.cap) <| st1 ((⟨b2, 0, none⟩ : Addr).add 2) (.slice z.a z.len z.cap) <|
      st1 (⟨b3, 0, none⟩ : Addr) (.int .u8 kd) <| st1 (⟨b4, 0, none⟩ : Addr) (.bool ok) <| st1 (⟨b5, 0, none⟩ : Addr) (.int .i64 e) <| K) h := by
  simp only [addr_add, Nat.zero_add]
  refine st.st1 0 0 rfl (by simp) fun h1 st => ?_
  refine st.st1 0 1 rfl (by simp) fun h2 st => ?_
  refine st.st1 0 2 rfl (by simp) fun h3 st => ?_
  refine st.st1 1 0 rfl (by simp) fun h4 st => ?_
  refine st.st1 2 0 rfl (by simp) fun h5 st => ?_
  refine st.st1 3 0 rfl (by simp) fun h6 st => ?_
  exact hK _ st
abbrev TSe : Type := ((Sl × (Sl × (Sl × Unit))) × (Int × (Bool × (Int × Unit))))
theorem outR {K : TSe → HP} (st : Hs fr G (stpC b2 x y z :: kdC b3 kd :: okC b4 ok :: erC b5 e :: As) h) (hK : K ((x, y, z, ()), kd, ok, e, ()) h) :
    (ldA (.cons .sl (.cons .sl (.cons .sl .nil))) (⟨b2, 0, none⟩ : Addr) fun x8 => ldT (.int .u8) (⟨b3, 0, none⟩ : Addr) fun x9 => ldT .bool (⟨b4, 0, none⟩ : Addr) fun x10 => ldT (.int .i64) (⟨b5, 0, none⟩ : Addr) fun x11 =>
      K ((⟨x8.1.a, x8.1.len, x8.1.cap⟩, ⟨x8.2.1.a, x8.2.1.len, x8.2.1.cap⟩, ⟨x8.2.2.1.a, x8.2.2.1.len, x8.2.2.1.cap⟩, ()), x9, x10, x11, ())) h := by
  refine ldRow (τ := .cons .sl (.cons .sl (.cons .sl .nil))) (x := (x, y, z, ())) (st.blk 0 rfl) ?_
  rw [st.ldi 1 0 rfl rfl, st.ldb 2 0 rfl rfl, st.ldi 3 0 rfl rfl]
  exact hK
theorem ent_new {n : Nat} {t : TypeId} {gps : List tPr.T} {sG : Sl} (hr : New n h (osn t 2 tPr.vals gps sG)) (hi : New n h (inn (fun c p => nio' c p) (gs.map (·.2)) (gps.map (·.2.1)))) (hids : gps.map (·.1) = gs.map (·.1)) : New n h (ent gs sG) := by
  have hl : gps.length = gs.length := by simpa using congrArg List.length hids
  refine rsp_new (ps := gps) hl ?_ fun i h1 h2 => ⟨?_, ?_⟩
  · obtain ⟨S, p, q⟩ := hr
    exact ⟨S, osn_rsn widePr p, q⟩
  · have := congrArg (fun l => l[i]?) hids
    simpa [h1, h2] using this
  · obtain ⟨S, p, q⟩ := hi
    obtain ⟨S', p', hsub⟩ := Inner.getS p i (by simpa using h1) (by simpa using h2)
    simp only [List.getElem_map] at p'
    exact ⟨S', osl_rsl p', fun b hb => q b (hsub b hb)⟩
def oneG (l : List Ent) (p : Int) (A : List Int) (x : Ent) : Option Grp :=
  if (restP p A x.2).2 = false then some (x.1, [])
  else if (findP (failsP p A x.2) (clsE l)).2.2 ≠ 0 ∨ (findP (failsP p A x.2) (clsE l)).2.1 = false then none
  else some (x.1, named l (findP (failsP p A x.2) (clsE l)).1)
theorem groupsGo_cons (x : Ent) (xs : List Ent) : groupsGo l p A (x :: xs) = (oneG l p A x).bind fun g => (groupsGo l p A xs).map fun gs => g :: gs := by
  rw [groupsGo, oneG]
  split
  · rfl
  · split <;> rfl
theorem groupsGo_snoc : ∀ (xs : List Ent) (x : Ent), groupsGo l p A (xs ++ [x]) = (groupsGo l p A xs).bind fun gs => (oneG l p A x).map fun g => gs ++ [g]
  | [], x => by
    rw [List.nil_append, groupsGo_cons]
    simp only [groupsGo]
    cases oneG l p A x <;> rfl
  | y :: xs, x => by
    rw [List.cons_append, groupsGo_cons, groupsGo_cons, groupsGo_snoc xs x]
    cases oneG l p A y with
    | none => rfl
    | some g =>
      cases groupsGo l p A xs with
      | none => rfl
      | some gs => cases oneG l p A x <;> rfl
theorem groupsGo_stop : ∀ (xs : List Ent) (x : Ent) (r : List Ent), oneG l p A x = none → groupsGo l p A (xs ++ x :: r) = none
  | [], x, r, h => by rw [List.nil_append, groupsGo_cons, h]; rfl
  | y :: xs, x, r, h => by
    rw [List.cons_append, groupsGo_cons, groupsGo_stop xs x r h]
    cases oneG l p A y <;> rfl
theorem groupsGo_len : ∀ {xs : List Ent} {gs : List Grp}, groupsGo l p A xs = some gs → gs.length = xs.length := fun {xs gs} h => by
  have := groupsGo_fst h
  simpa using congrArg List.length this
theorem find_good (hE : rightE l = true) (hl : l.length ≤ 65536) (h : (findP c (clsE l)).2.1 = true) : (∀ i ∈ (findP c (clsE l)).1, i < l.length) ∧ (findP c (clsE l)).1.length ≤ l.length := by
  have hr := cls_right hE
  have hl' : (clsE l).length ≤ 65536 := by simpa [clsE] using hl
  have hc : rightC c = true := by
    cases hc : rightC c with
    | true => rfl
    | false =>
      have : findP c (clsE l) = ([], false, 20) := by unfold findP; rw [hc]; simp
      rw [this] at h; cases h
  have law := found_law hc hr hl' h
  refine ⟨fun i hi => by have := law.lt i hi; simpa [clsE] using this, ?_⟩
  have := nodup_bound _ law.nodup law.lt
  simpa [clsE] using this
theorem search20 (hE : rightE l = true) (h20 : (findP c (clsE l)).2.2 = 20) : searchP l c = (⟨[], [], []⟩, 0, false, 20) := by
  unfold searchP; rw [if_neg (by simp [hE]), if_pos h20]
theorem searchF (hE : rightE l = true) (h20 : ¬ (findP c (clsE l)).2.2 = 20) (hf : (findP c (clsE l)).2.1 = true) : searchP l c = (⟨c, named l (findP c (clsE l)).1, []⟩, 1, true, 0) := by
  unfold searchP; rw [if_neg (by simp [hE]), if_neg h20, if_pos hf]
theorem searchN (hE : rightE l = true) (h20 : ¬ (findP c (clsE l)).2.2 = 20) (hf : ¬ (findP c (clsE l)).2.1 = true) (h : c = [] ∨ (findP c (clsE l)).2.2 ≠ 0) : searchP l c = (⟨[], [], []⟩, 0, false, 0) := by
  unfold searchP; rw [if_neg (by simp [hE]), if_neg h20, if_neg hf]
  cases c with
  | nil => rfl
  | cons p r =>
    rcases h with h | h
    · cases h
    · simp only; rw [if_pos h]
theorem searchG {r : List Int} (hE : rightE l = true) (h20 : ¬ (findP (p :: r) (clsE l)).2.2 = 20) (hf : ¬ (findP (p :: r) (clsE l)).2.1 = true) (h0 : (findP (p :: r) (clsE l)).2.2 = 0) :
    (groupsGo l p (propGo l (fuelE l) (negs (p :: r)) []).1 (l.filter (isCand p)) = none → searchP l (p :: r) = (⟨[], [], []⟩, 0, false, 0)) ∧
    ∀ gs, groupsGo l p (propGo l (fuelE l) (negs (p :: r)) []).1 (l.filter (isCand p)) = some gs → searchP l (p :: r) = (⟨p :: r, (propGo l (fuelE l) (negs (p :: r)) []).2, gs⟩, 2, true, 0) := by
  unfold searchP; rw [if_neg (by simp [hE]), if_neg h20, if_neg hf]
  simp only
  rw [if_neg (by simp [h0])]
  refine ⟨fun h => by rw [h], fun gs h => by rw [h]⟩
theorem cloneK_c {K : Sl → HP} (st : Hs fr G As h) (hy : At h (li c s)) (hlen : c.length ≤ 1099511627776) (hK : ∀ s' h', Hs fr G (As ++ [lo c s']) h' → K s' h') :
    callT Tryz.prog fn_slices_Clone_clauses_Clause_lits_Lit #[.slice s.a s.len s.cap] .sl K h :=
  S_slices_Clone_clauses_Clause_lits_Lit (a0 := s) K (Hs.clone (τ := i64) (t := ty_lits_Lit) (by_ := 8) (z := .int .i64 0) st hy leaf_int (by omega) (by decide) hK)
abbrev tSe : Ty := .tup (.cons (.agg (.cons .sl (.cons .sl (.cons .sl .nil)))) (.cons (.int .u8) (.cons .bool (.cons (.int .i64) .nil))))
set_option maxRecDepth 100000 in
set_option maxHeartbeats 2000000 in
theorem Search_c (hA : At h (ent l s)) (hB : At h (li c sc)) (hll : l.length ≤ 65536) (hcl : c.length ≤ 1048576) (hf : fuelE l ≤ 500000) :
    callT Tryz.prog fn_rat_Search #[.slice s.a s.len s.cap, .slice sc.a sc.len sc.cap] tSe
      (fun r h' => ∃ sL sH sG, r = ((sL, sH, sG, ()), (searchP l c).2.1, (searchP l c).2.2.1, (searchP l c).2.2.2, ()) ∧ New h.size h' (lo (searchP l c).1.lits sL) ∧ New h.size h' (nio' (searchP l c).1.hints sH) ∧ New h.size h' (ent (searchP l c).1.groups sG) ∧ Ext [] h h') h := by
  refine callT_gen fun K hK => S_rat_Search (a0 := s) (a1 := sc) K ?_
  unfold F_rat_Search
  show (nw _ _ _) h
  obtain ⟨ps, lp, hps, hx⟩ := rsp_open hA
  obtain ⟨hd, hhd⟩ : ∃ hd : List Sl, hd = ps.map (fun q => q.2.1) := ⟨_, rfl⟩
  have lhd : hd.length = l.length := by rw [hhd]; simpa using lp
  have hcls : (clsE l).length = l.length := by simp [clsE]
  have hrow : ∀ i (h1 : i < (clsE l).length) (h2 : i < hd.length), At h (li (clsE l)[i] hd[i]) := fun i h1 h2 => by
    subst hhd
    simp only [clsE, List.getElem_map]
    exact (hx i (by omega) (by omega)).2
  have st : Hs [([], h)] (ent l s :: li c sc :: rsn 2 tPr.vals ps s :: rows (clsE l) hd) [] h := Hs.start h _ (by
    intro A hA'
    simp only [List.mem_cons] at hA'
    rcases hA' with rfl | rfl | rfl | hA'
    · exact hA
    · exact hB
    · exact hps
    · exact rows_at (by omega) hrow _ hA')
  have ls := rsp_len hA
  refine st.nw fun b0 h1 st => ?_
  refine st.nw fun b1 h1 st => ?_
  refine st.nw fun b2 h1 st => ?_
  refine st.nw fun b3 h1 st => ?_
  refine st.nw fun b4 h1 st => ?_
  refine st.nw fun b5 h1 st => ?_
  simp only [List.cons_append, List.nil_append] at st
  have st := (st.freeze 0 rfl).freeze 0 rfl
  simp only [List.cons_append, List.eraseIdx_cons_zero] at st
  let G1 : List Asn := ent l s :: li c sc :: rsn 2 tPr.vals ps s :: cl b0 ty_sl_rat_Entry [.slice s.a s.len s.cap] :: cl b1 ty_clauses_Clause [.slice sc.a sc.len sc.cap] :: rows (clsE l) hd
  have st : Hs [([], h)] G1 [cl b2 ty_rat_Step [.slice none 0 0, .slice none 0 0, .slice none 0 0], cl b3 ty_uint8 [.int .u8 0], cl b4 ty_bool [.bool false], cl b5 ty_api_Errno [.int .i64 0]] h1 := st.less (G' := G1) (by
    intro A hA
    simp only [G1, List.mem_cons] at hA
    simp only [List.mem_cons, List.mem_append, List.not_mem_nil, or_false]
    rcases hA with h | h | h | h | h | h
    · exact .inl h
    · exact .inr (.inl h)
    · exact .inr (.inr (.inl h))
    · exact .inr (.inr (.inr (.inl (.inr h))))
    · exact .inr (.inr (.inr (.inr h)))
    · exact .inr (.inr (.inr (.inl (.inl h)))))
  -- what is handed back
  have fin : ∀ {G' As} (S : Stp) (kd : Int) (ok : Bool) (e : Int) (sL sH sG : Sl) h', searchP l c = (S, kd, ok, e) → Hs [([], h)] G' (stpC b2 sL sH sG :: kdC b3 kd :: okC b4 ok :: erC b5 e :: As) h' →
      (∀ h2, Hs [([], h)] G' (stpC b2 sL sH sG :: kdC b3 kd :: okC b4 ok :: erC b5 e :: As) h2 → New h.size h2 (lo S.lits sL) ∧ New h.size h2 (nio' S.hints sH) ∧ New h.size h2 (ent S.groups sG)) →
      (mkd h.size <| ldA (.cons .sl (.cons .sl (.cons .sl .nil))) (⟨b2, 0, none⟩ : Addr) fun x8 => ldT (.int .u8) (⟨b3, 0, none⟩ : Addr) fun x9 => ldT .bool (⟨b4, 0, none⟩ : Addr) fun x10 => ldT (.int .i64) (⟨b5, 0, none⟩ : Addr) fun x11 =>
        K ((⟨x8.1.a, x8.1.len, x8.1.cap⟩, ⟨x8.2.1.a, x8.2.1.len, x8.2.1.cap⟩, ⟨x8.2.2.1.a, x8.2.2.1.len, x8.2.2.1.cap⟩, ()), x9, x10, x11, ())) h' := by
    intro G' As S kd ok e sL sH sG h' hS st hn h2 hM
    have st := st.marked hM
    obtain ⟨n1, n2, n3⟩ := hn _ st
    exact outR st (hK _ _ ⟨sL, sH, sG, by rw [hS], by rw [hS]; exact n1, by rw [hS]; exact n2, by rw [hS]; exact n3, st.frame (by simp)⟩)
  have none3 : ∀ h2, New h.size h2 (lo ([] : List Int) ⟨none, 0, 0⟩) ∧ New h.size h2 (nio' ([] : List Int) ⟨none, 0, 0⟩) ∧ New h.size h2 (ent ([] : List Grp) ⟨none, 0, 0⟩) := fun h2 => ⟨osl_nil _ _, osl_nil _ _, rsp_nil _ _ _⟩
  rw [ld_sl (i := 0) (st.fblk 3 rfl) rfl]
  refine call_of (ratRight_c (st.fz 0 rfl) (by omega)) ?_
  rintro _ h2 ⟨rfl, x2⟩
  have st := st.ext x2
  cases hE : rightE l with
  | false =>
    refine brT rfl (outW ⟨none, 0, 0⟩ ⟨none, 0, 0⟩ ⟨none, 0, 0⟩ st fun h3 st => fin ⟨[], [], []⟩ 0 false 90 _ _ _ _ ?_ st fun h2 _ => none3 h2)
    unfold searchP; rw [hE]; rfl
  | true =>
  refine brF rfl ?_
  refine st.nw fun b12 h3 st => ?_
  have st := st.nil ty_clauses_Clause Ty.sl.enc none
  simp only [List.cons_append, List.nil_append] at st
  rw [ld_sl (i := 0) (st.fblk 3 rfl) rfl]
  refine lfp_invh (I := fun m σ h' => ∃ (i : Nat) (sx : Sl), σ = ((i : Int), ()) ∧ i ≤ l.length ∧
      Hs [([], h)] G1 [cl b2 ty_rat_Step [.slice none 0 0, .slice none 0 0, .slice none 0 0], cl b3 ty_uint8 [.int .u8 0], cl b4 ty_bool [.bool false], cl b5 ty_api_Errno [.int .i64 0], cl b12 ty_sl_clauses_Clause [.slice sx.a sx.len sx.cap], osl ty_clauses_Clause Ty.sl.enc (hd.take i) sx] h' ∧ m = l.length - i)
    ⟨_, 0, ⟨none, 0, 0⟩, rfl, by omega, st, rfl⟩ ?_
  clear st
  rintro m σ h4 X ⟨i, sx, rfl, hi, st, rfl⟩ hX
  simp only
  by_cases hlt : i < l.length
  · refine brT (by rw [ls]; exact dlt_t hlt) ?_
    refine rdN (τ := tPr) (st.fz 2 rfl) (show i < ps.length by omega) ?_
    have eh : ps[i].2.1 = hd[i]'(by omega) := by subst hhd; simp
    refine st.pr fun b18 h5 x5 st => ?_
    simp only [List.cons_append, List.nil_append, addr_add, Nat.zero_add] at st ⊢
    rw [st.lds 4 0 rfl rfl, st.lds 6 1 rfl rfl]
    refine st.nw fun b21 h6 st => ?_
    simp only [List.cons_append, List.nil_append] at st
    refine st.apd (v := ps[i].2.1) 5 7 rfl rfl (by decide) rfl (by simp; omega) (by decide) rfl fun s22 h7 st => ?_
    refine st.st1 4 0 rfl (by simp) fun h8 st => ?_
    simp only [List.set_cons_zero, List.set_cons_succ] at st
    have st := (st.drop 7 rfl).drop 6 rfl
    simp only [List.eraseIdx_cons_succ, List.eraseIdx_cons_zero] at st
    rw [inc_i (by omega)]
    refine hX _ _ _ ⟨i + 1, s22, rfl, by omega, ?_, rfl⟩ (by omega)
    have et : hd.take (i + 1) = hd.take i ++ [hd[i]'(by omega)] := by simp
    rw [et, ← eh]; exact st
  refine brF (by rw [ls]; exact dlt_f hlt) ?_
  clear hX
  rw [List.take_of_length_le (by omega)] at st
  have st := (st.freeze 4 rfl).froz 4 rfl
  simp only [List.cons_append, List.eraseIdx_cons_succ, List.eraseIdx_cons_zero] at st
  let G2 : List Asn := ent l s :: li c sc :: rsn 2 tPr.vals ps s :: cl b0 ty_sl_rat_Entry [.slice s.a s.len s.cap] :: cl b1 ty_clauses_Clause [.slice sc.a sc.len sc.cap] :: cl b12 ty_sl_clauses_Clause [.slice sx.a sx.len sx.cap] :: rsl Ty.sl.enc hd sx :: rows (clsE l) hd
  have st : Hs [([], h)] G2 [cl b2 ty_rat_Step [.slice none 0 0, .slice none 0 0, .slice none 0 0], cl b3 ty_uint8 [.int .u8 0], cl b4 ty_bool [.bool false], cl b5 ty_api_Errno [.int .i64 0]] h4 := st.less (G' := G2) (by
    intro A hA
    simp only [G2, List.mem_cons] at hA
    simp only [G1, List.mem_cons, List.mem_append, List.not_mem_nil, or_false]
    rcases hA with h | h | h | h | h | h | h | h
    · exact .inl (.inl (.inl h))
    · exact .inl (.inl (.inr (.inl h)))
    · exact .inl (.inl (.inr (.inr (.inl h))))
    · exact .inl (.inl (.inr (.inr (.inr (.inl h)))))
    · exact .inl (.inl (.inr (.inr (.inr (.inr (.inl h))))))
    · exact .inl (.inr h)
    · exact .inr h
    · exact .inl (.inl (.inr (.inr (.inr (.inr (.inr h)))))))
  have all : ∀ {G'} {fr : Fr} {As} {h'}, (∀ A ∈ G2, A ∈ G') → Hs fr G' As h' → At h' (lli (clsE l) sx) := fun hsub st => rsg_at (ps := hd) (by omega) (st.fzm (hsub _ (by simp [G2]))) fun i h1 h2 => st.fzm (hsub _ (by simp only [G2, List.mem_cons]; exact .inr (.inr (.inr (.inr (.inr (.inr (.inr (rows_mem h1 h2)))))))))
  have hfl : fuelP (clsE l) ≤ 1000000 := by have : fuelP (clsE l) = fuelE l := rfl; omega
  rw [ld_sl (i := 0) (st.fblk 4 rfl) rfl, ld_sl (i := 0) (st.fblk 5 rfl) rfl]
  refine call_of (Find_c (st.fz 1 rfl) (all (fun _ h => h) st) hcl (by omega) hfl) ?_
  rintro _ h5 ⟨s25, rfl, n25, x25⟩
  have st := st.new x25 n25
  simp only [List.cons_append, List.nil_append] at st
  by_cases h20 : (findP c (clsE l)).2.2 = 20
  · have hS := search20 hE h20
    refine brT (by simpa using h20) ?_
    simp only [h20]
    exact outW ⟨none, 0, 0⟩ ⟨none, 0, 0⟩ ⟨none, 0, 0⟩ st fun h3 st => fin _ _ _ _ _ _ _ _ hS st fun h2 _ => none3 h2
  refine brF (by simpa using h20) ?_
  by_cases hfo : (findP c (clsE l)).2.1 = true
  · have hS := searchF hE h20 hfo
    obtain ⟨g1, g2⟩ := find_good hE hll hfo
    refine brT hfo ?_
    rw [ld_sl (i := 0) (st.fblk 4 rfl) rfl, ld_sl (i := 0) (st.fblk 3 rfl) rfl]
    refine cloneK_c st (st.fz 1 rfl) (by omega) fun s32 h6 st => ?_
    simp only [List.cons_append, List.nil_append] at st
    rw [ck_ok (i := 0) (st.fblk 3 rfl) rfl]
    refine call_of (named_c (st.fz 0 rfl) (st.own 4 rfl) g1 (by omega)) ?_
    rintro s33 h7 ⟨n33, x33⟩
    have st := st.new x33 n33
    simp only [List.cons_append, List.nil_append] at st
    refine outW s32 s33 ⟨none, 0, 0⟩ st fun h8 st => fin _ _ _ _ _ _ _ _ hS st fun h2 st => ⟨?_, ?_, rsp_nil _ _ _⟩
    · exact st.res (by simp) 5 rfl
    · exact st.res (by simp) 6 rfl
  refine brF (by simpa using hfo) ?_
  have st := st.drop 4 rfl
  simp only [List.eraseIdx_cons_succ, List.eraseIdx_cons_zero] at st
  rw [ld_sl (i := 0) (st.fblk 4 rfl) rfl]
  have lc := rsl_len (st.fz 1 rfl)
  have bad : (c = [] ∨ (findP c (clsE l)).2.2 ≠ 0) → ∀ {As} h', Hs [([], h)] G2 (cl b2 ty_rat_Step [.slice none 0 0, .slice none 0 0, .slice none 0 0] :: cl b3 ty_uint8 [.int .u8 0] :: cl b4 ty_bool [.bool false] :: cl b5 ty_api_Errno [.int .i64 0] :: As) h' → _ := fun hor As h' st =>
    outW ⟨none, 0, 0⟩ ⟨none, 0, 0⟩ ⟨none, 0, 0⟩ st fun h3 st => fin ⟨[], [], []⟩ 0 false 0 _ _ _ _ (searchN hE h20 hfo hor) st fun h2 _ => none3 h2
  refine jn_in fun J hJ => ?_
  cases c with
  | nil => exact brT (by rw [lc]; rfl) (hJ _ _ (brT rfl (bad (.inl rfl) _ st)))
  | cons p r =>
  refine brF (by rw [lc, List.length_cons, beq_eq_false_iff_ne]; omega) (hJ _ _ ?_)
  clear J hJ
  by_cases h0 : (findP (p :: r) (clsE l)).2.2 = 0
  rotate_left
  · exact brT (by simpa using h0) (bad (.inr h0) _ st)
  refine brF (by simpa using h0) ?_
  clear bad
  obtain ⟨sN, sS⟩ := searchG hE h20 hfo h0
  have hcr : ∀ d ∈ clsE l, rightC d = true := cls_right hE
  have hr : rightC (p :: r) = true := by
    cases hr : rightC (p :: r) with
    | true => rfl
    | false => exact absurd (show (findP (p :: r) (clsE l)).2.2 = 20 by unfold findP; rw [hr]; simp) h20
  have ha : alwaysC (p :: r) = false := by
    cases ha : alwaysC (p :: r) with
    | false => rfl
    | true => exact absurd (show (findP (p :: r) (clsE l)).2.1 = true by rw [find_eq hr hcr (by omega), ha]; rfl) hfo
  have hp : rt p = true := rightC_rt hr p (by simp)
  have eS : assumeP (p :: r) = (negs (p :: r), false, 0) := by unfold assumeP; rw [hr, ha]; rfl
  have hno := okA_negs hr ha
  have hnl : (negs (p :: r)).length ≤ 4096 := by
    unfold negs; rw [List.length_map]; have := nrm_length (p :: r); have := rightC_len hr; omega
  rw [ld_sl (i := 0) (st.fblk 4 rfl) rfl]
  refine call_of (Assume_c (st.fz 1 rfl) (by omega)) ?_
  rw [eS]
  rintro _ h6 ⟨s46, rfl, n46, x46⟩
  have st := (st.new x46 n46).froz 4 rfl
  simp only [List.cons_append, List.eraseIdx_cons_succ, List.eraseIdx_cons_zero, List.nil_append] at st
  rw [ld_sl (i := 0) (st.fblk 3 rfl) rfl]
  have hneg : At h6 (li (negs (p :: r)) s46) := st.fzm (List.mem_append_right _ (by simp))
  refine call_of (propagate_c (st.fz 0 rfl) hE hneg hno hnl (by omega)) ?_
  rintro _ h7 ⟨sA, sI, rfl, nA, nI, x7⟩
  obtain ⟨hoA, _⟩ := propGo_ok (l := l) (fun x hx => rightC_rt (rightE_lits hE x hx)) (fuelE l) (ids := []) hno
  have hAl := (propGo_len (l := l) (fuelE l) (negs (p :: r)) []).1
  generalize (propGo l (fuelE l) (negs (p :: r)) []).1 = A1 at *
  generalize (propGo l (fuelE l) (negs (p :: r)) []).2 = ids1 at *
  have hsz : h.size ≤ h6.size := (st.frame (h0 := h) (by simp)).1
  let B0 : List Asn := [cl b2 ty_rat_Step [.slice none 0 0, .slice none 0 0, .slice none 0 0], cl b3 ty_uint8 [.int .u8 0], cl b4 ty_bool [.bool false], cl b5 ty_api_Errno [.int .i64 0]]
  -- what is assigned, and the hints, frozen
  have st : Hs [([], h)] ((G2 ++ [li (negs (p :: r)) s46]) ++ [newA h.size (nio' ids1 sI)] ++ [li A1 sA]) B0 h7 := by
    rcases nA with ⟨e1, e2⟩ | nA
    · have st := st.fzNew (Bs := [newA h.size (nio' ids1 sI)]) x7 (by
        intro B hB
        simp only [List.mem_singleton] at hB
        subst hB; exact nI.toA hsz)
      subst e2
      have := st.gainM (A := li (negs (p :: r)) sA) (List.mem_append_left _ (List.mem_append_right _ (by simp)))
      rw [e1]; exact this
    · have st := st.fzNew (Bs := [newA h.size (nio' ids1 sI), li A1 sA]) x7 (by
        intro B hB
        simp only [List.mem_cons, List.not_mem_nil, or_false] at hB
        rcases hB with rfl | rfl
        · exact nI.toA hsz
        · exact New.rsl nA)
      rw [List.append_assoc]; exact st
  refine st.nw fun b49 h8 st => ?_
  refine st.st1 4 0 rfl (by simp) fun h9 st => ?_
  simp only [B0, List.cons_append, List.nil_append, List.set_cons_zero, List.set_cons_succ] at st
  have st := st.freeze 4 rfl
  simp only [List.eraseIdx_cons_succ, List.eraseIdx_cons_zero] at st
  have hb1 : cl b1 ty_clauses_Clause [.slice sc.a sc.len sc.cap] ∈ G2 := by simp [G2]
  have hb0 : cl b0 ty_sl_rat_Entry [.slice s.a s.len s.cap] ∈ G2 := by simp [G2]
  rw [ld_sl (i := 0) (st.fblk 4 rfl) rfl]
  refine cloneK_c st (st.fz 1 rfl) (by omega) fun s51 h10 st => ?_
  simp only [List.cons_append, List.nil_append] at st
  have st := (Hs.fresh (h0 := h) st (by simp) 4 rfl)
  simp only [List.set_cons_zero, List.set_cons_succ] at st
  have st := st.freeze 4 rfl
  simp only [List.eraseIdx_cons_succ, List.eraseIdx_cons_zero] at st
  refine st.nw fun b52 h11 st => ?_
  simp only [List.cons_append, List.nil_append, addr_add, Nat.zero_add] at st ⊢
  refine st.st1 4 0 rfl (by simp) fun h12 st => ?_
  refine st.st1 4 1 rfl (by simp) fun h13 st => ?_
  refine st.st1 4 2 rfl (by simp) fun h14 st => ?_
  simp only [List.set_cons_zero, List.set_cons_succ] at st
  let G3 : List Asn := ent l s :: li (p :: r) sc :: cl b0 ty_sl_rat_Entry [.slice s.a s.len s.cap] :: cl b1 ty_clauses_Clause [.slice sc.a sc.len sc.cap] :: cl b12 ty_sl_clauses_Clause [.slice sx.a sx.len sx.cap] ::
    cl b49 ty_sl_lits_Lit [.slice sA.a sA.len sA.cap] :: li A1 sA :: newA h.size (nio' ids1 sI) :: newA h.size (lo (p :: r) s51) :: G2
  have st := st.less (G' := G3) (by
    intro A hA
    simp only [G3, List.mem_cons] at hA
    simp only [List.mem_append, List.mem_singleton]
    rcases hA with h | h | h | h | h | h | h | h | h | h
    · exact .inl (.inl (.inl (.inl (.inl (by rw [h]; simp [G2])))))
    · exact .inl (.inl (.inl (.inl (.inl (by rw [h]; simp [G2])))))
    · exact .inl (.inl (.inl (.inl (.inl (by rw [h]; simp [G2])))))
    · exact .inl (.inl (.inl (.inl (.inl (by rw [h]; simp [G2])))))
    · exact .inl (.inl (.inl (.inl (.inl (by rw [h]; simp [G2])))))
    · exact .inl (.inr h)
    · exact .inl (.inl (.inr h))
    · exact .inl (.inl (.inl (.inr h)))
    · exact .inr h
    · exact .inl (.inl (.inl (.inl (.inl h)))))
  have hG23 : ∀ A ∈ G2, A ∈ G3 := fun A hA => by simp only [G3, List.mem_cons]; exact .inr (.inr (.inr (.inr (.inr (.inr (.inr (.inr (.inr hA))))))))
  rw [ld_sl (i := 0) (st.fblk 2 rfl) rfl, ld_sl (i := 0) (st.fblk 3 rfl) rfl]
  refine rdE (τ := i64) (i := 0) (st.fz 1 rfl) (by simp) ?_
  simp only [List.getElem_cons_zero]
  refine candidates_c (l := l) (s := s) st (List.mem_cons_self ..) fun c0 c1 h15 st => ?_
  have st := st.niln ty_rat_Group 2 tPr.vals none
  have st := st.new (A := inn (fun c p => nio' c p) ([] : List (List Int)) []) (Ext.refl' _ _) ⟨[], rfl, by simp⟩
  simp only [List.cons_append, List.nil_append] at st
  have hcd : ∀ C ∈ cdG c0 c1 l s p, C ∈ G3 ++ [cl c0 ty_sl_rat_Entry [.slice s.a s.len s.cap], cl c1 ty_lits_Lit [.int .i64 p]] := by
    intro C hC
    simp only [cdG, List.mem_cons, List.not_mem_nil, or_false] at hC
    rcases hC with rfl | rfl | rfl
    · exact List.mem_append_right _ (by simp)
    · exact List.mem_append_right _ (by simp)
    · exact List.mem_append_left _ (List.mem_cons_self ..)
  refine Hs.range st (P := Tryz.prog) (τ := .cons i64 .nil) (cdNx (cdGo p l 0)) (cdFin (cdGo p l 0)) (cand_hit (s := s) st hcd hE hp) (fun _ _ _ _ => rfl)
    (fun pre Bs => ∃ (gs : List Grp) (gps : List tPr.T) (sG : Sl), groupsGo l p A1 (pre.map (cdEnt l)) = some gs ∧ gps.map (·.1) = gs.map (·.1) ∧
      Bs = B0 ++ [cl b52 ty_rat_Step [.slice s51.a s51.len s51.cap, .slice sI.a sI.len sI.cap, .slice sG.a sG.len sG.cap], osn ty_rat_Group 2 tPr.vals gps sG, inn (fun c p => nio' c p) (gs.map (·.2)) (gps.map (·.2.1))])
    (fun j Bs => j = .ret ∧ searchP l (p :: r) = (⟨[], [], []⟩, 0, false, 0) ∧ ∃ rest, Bs = stpC b2 ⟨none, 0, 0⟩ ⟨none, 0, 0⟩ ⟨none, 0, 0⟩ :: kdC b3 0 :: okC b4 false :: erC b5 0 :: rest)
    ⟨[], [], ⟨none, 0, 0⟩, rfl, rfl, rfl⟩ ?_ ?_ ?_ (fun i id K hi => by simp at hi)
  · rintro pre x Bs B hb ⟨rr, hrr⟩ ⟨gs, gps, sG, hg, hids, rfl⟩ st next jump hnext hjump
    obtain ⟨j, hj, rfl, ej, hcj⟩ := cd_at hrr
    have hents : l.filter (isCand p) = pre.map (cdEnt l) ++ l[j] :: rr.map (cdEnt l) := by
      rw [← cd_ents (p := p) (l := l), hrr, List.map_append, List.map_cons, ej]
    have hsn := groupsGo_snoc (l := l) (p := p) (A := A1) (pre.map (cdEnt l)) l[j]
    rw [hg] at hsn
    have hgl : gs.length ≤ l.length := by
      have h1 := groupsGo_len hg
      have h2 : (l.filter (isCand p)).length ≤ l.length := List.length_filter_le _ _
      rw [hents, List.length_append] at h2
      omega
    have hgpl : gps.length = gs.length := by simpa using congrArg List.length hids
    simp only [B0, List.cons_append, List.nil_append] at st
    simp only
    rw [ld_sl (i := 0) (st.fblk 2 rfl) rfl]
    refine rdPri (st.fz 0 rfl) hj ?_
    refine Hs.pr (s' := ⟨none, 0, 0⟩) st fun b65 h16 x16 st => ?_
    simp only [List.cons_append, List.nil_append] at st
    rw [ld_sl (i := 0) (st.fblk 2 rfl) rfl]
    refine rdPrs (st.fz 0 rfl) hj fun q hq => ?_
    rw [ld_sl (i := 0) (st.fblk 3 rfl) rfl]
    refine rdE (τ := i64) (i := 0) (st.fz 1 rfl) (by simp) ?_
    simp only [List.getElem_cons_zero]
    rw [ld_sl (i := 0) (st.fblk 5 rfl) rfl]
    have hrj := rightC_rt (rightE_lits hE _ (List.getElem_mem hj))
    have hlj := rightC_len (rightE_lits hE _ (List.getElem_mem hj))
    refine call_of (rest_c hq (st.fz 6 rfl) hrj hp (by omega) (by omega)) ?_
    rintro _ h17 ⟨s73, rfl, n73, x73⟩
    have st := st.new x73 n73
    simp only [List.cons_append, List.nil_append] at st
    have hal : alwaysC l[j].2 = false := by
      unfold isCand at hcj
      simp only [Bool.and_eq_true, Bool.not_eq_true'] at hcj
      exact hcj.2
    have hro := rest_ok (p := p) hoA hrj
    -- the group is put behind the others
    refine jn_in fun J hJ => ?_
    have put : ∀ (H : List Int) (sH : Sl) h', oneG l p A1 l[j] = some (l[j].1, H) → Hs ((B, hb) :: [([], h)]) (G3 ++ [cl c0 ty_sl_rat_Entry [.slice s.a s.len s.cap], cl c1 ty_lits_Lit [.int .i64 p]])
        [cl b2 ty_rat_Step [.slice none 0 0, .slice none 0 0, .slice none 0 0], cl b3 ty_uint8 [.int .u8 0], cl b4 ty_bool [.bool false], cl b5 ty_api_Errno [.int .i64 0], cl b52 ty_rat_Step [.slice s51.a s51.len s51.cap, .slice sI.a sI.len sI.cap, .slice sG.a sG.len sG.cap], osn ty_rat_Group 2 tPr.vals gps sG, inn (fun c p => nio' c p) (gs.map (·.2)) (gps.map (·.2.1)), prC b65 ty_rat_Group l[j].1 sH, nio' H sH] h' → J () h' := by
      intro H sH h' hone st
      rw [hone] at hsn
      refine hJ _ _ ?_
      rw [st.lds 4 2 rfl rfl]
      refine ldRow (τ := tPr) (x := (l[j].1, sH, ())) (st.blk 7 rfl) ?_
      refine st.nw fun b78 h18 st => ?_
      simp only [List.cons_append, List.nil_append] at st
      refine Hs.apdN (v := ((l[j].1, sH, ()) : tPr.T)) st widePr (by decide) 5 9 rfl rfl (by decide) (fun u hu => by
        have hu : u ∈ [Value.int .i64 l[j].1, .slice sH.a sH.len sH.cap] := hu
        simp only [List.mem_cons, List.not_mem_nil, or_false] at hu
        rcases hu with rfl | rfl <;> rfl) (by omega) (by decide) rfl fun s79 h19 st => ?_
      refine st.st1 4 2 rfl (by simp) fun h20 st => ?_
      simp only [List.set_cons_zero, List.set_cons_succ] at st
      have st := (st.drop 9 rfl).drop 7 rfl
      simp only [List.eraseIdx_cons_succ, List.eraseIdx_cons_zero] at st
      have st := st.move (A' := inn (fun c p => nio' c p) (gs.map (·.2) ++ [H]) (gps.map (·.2.1) ++ [sH])) 6 7 rfl rfl (by decide) fun S1 S2 h1 h2 hd => Inner.snoc h1 h2
      simp only [List.set_cons_zero, List.set_cons_succ] at st
      have st := st.drop 7 rfl
      simp only [List.eraseIdx_cons_succ, List.eraseIdx_cons_zero] at st
      refine hnext _ _ ⟨gs ++ [(l[j].1, H)], gps ++ [(l[j].1, sH, ())], s79, ?_, ?_, ?_⟩ st
      · rw [List.map_append, List.map_singleton, ej, hsn]; rfl
      · rw [List.map_append, List.map_append, hids]; rfl
      · simp only [B0, List.map_append, List.map_cons, List.map_nil, List.cons_append, List.nil_append]
    cases ho : (restP p A1 l[j].2).2 with
    | false =>
      refine brF rfl ?_
      have st := (st.drop 8 rfl).nil ty_int i64.enc none
      exact put [] ⟨none, 0, 0⟩ _ (by rw [oneG, if_pos ho]) st
    | true =>
      refine brT rfl ?_
      have hok := rest_okA hoA hrj hal ho
      rw [ld_sl (i := 0) (st.fblk 5 rfl) rfl]
      refine st.nw fun b81 h18 st => ?_
      simp only [List.cons_append, List.nil_append] at st
      refine call_of (concatL_c (st.blk 9 rfl) (st.fz 6 rfl) (st.own 8 rfl).rsl (by omega)) ?_
      rintro r82 h19 ⟨n82, x82⟩
      have st := (((st.new x82 n82).drop 9 rfl).drop 8 rfl).nil ty_lits_Lit i64.enc none
      simp only [List.cons_append, List.nil_append, List.eraseIdx_cons_succ, List.eraseIdx_cons_zero] at st
      have l82 := osl_len (st.own 8 rfl)
      have efl : failsP p A1 l[j].2 = negR (A1 ++ (restP p A1 l[j].2).1) := rfl
      have hcc : (A1 ++ (restP p A1 l[j].2).1).length ≤ 600000 := by rw [List.length_append]; omega
      obtain ⟨hokr, _⟩ := okA_iff.1 hok
      generalize (A1 ++ (restP p A1 l[j].2).1) = CC at *
      refine lfp_invh (I := fun m σ h' => ∃ (i : Nat) (sf : Sl), σ = ((i : Int), sf, ()) ∧ i ≤ CC.length ∧ Hs ((B, hb) :: [([], h)]) (G3 ++ [cl c0 ty_sl_rat_Entry [.slice s.a s.len s.cap], cl c1 ty_lits_Lit [.int .i64 p]])
        [cl b2 ty_rat_Step [.slice none 0 0, .slice none 0 0, .slice none 0 0], cl b3 ty_uint8 [.int .u8 0], cl b4 ty_bool [.bool false], cl b5 ty_api_Errno [.int .i64 0], cl b52 ty_rat_Step [.slice s51.a s51.len s51.cap, .slice sI.a sI.len sI.cap, .slice sG.a sG.len sG.cap], osn ty_rat_Group 2 tPr.vals gps sG, inn (fun c p => nio' c p) (gs.map (·.2)) (gps.map (·.2.1)), prC b65 ty_rat_Group l[j].1 ⟨none, 0, 0⟩, lo CC r82, lo (negR (CC.take i)) sf] h' ∧ m = CC.length - i)
        ⟨_, 0, _, rfl, by omega, st, rfl⟩ ?_
      clear st
      rintro m σ h20 X ⟨i, sf, rfl, hi, st, rfl⟩ hX
      simp only
      by_cases hlt : i < CC.length
      · refine brT (by rw [l82]; exact dlt_t hlt) ?_
        refine rdE (τ := i64) (st.own 8 rfl).rsl hlt ?_
        refine call_of (lits_Neg_c _) ?_
        rintro _ h21 ⟨rfl, e⟩; subst e
        rw [negL_rt (hokr _ (List.getElem_mem hlt))]
        refine st.nw fun b88 h22 st => ?_
        simp only [List.cons_append, List.nil_append] at st
        refine st.apd (v := -CC[i]) 9 10 rfl rfl (by decide) rfl (by simp only [List.length_map, List.length_take]; omega) (by decide) rfl fun s89 h23 st => ?_
        simp only [List.set_cons_zero, List.set_cons_succ] at st
        have st := st.drop 10 rfl
        rw [inc_i (by omega)]
        refine hX _ _ _ ⟨i + 1, s89, rfl, by omega, ?_, rfl⟩ (by omega)
        have et : CC.take (i + 1) = CC.take i ++ [CC[i]] := by simp
        rw [et]
        simp only [negR, List.map_append, List.map_cons, List.map_nil]
        exact st
      refine brF (by rw [l82]; exact dlt_f hlt) ?_
      clear hX
      rw [List.take_of_length_le (by omega)] at st
      rw [ld_sl (i := 0) (st.fblk 4 rfl) rfl]
      refine call_of (Find_c (st.own 9 rfl).rsl (all (fun A hA => List.mem_append_left _ (hG23 A hA)) st) (by simp only [List.length_map]; omega) (by omega) hfl) ?_
      rw [← efl]
      rintro _ h24 ⟨s91, rfl, n91, x91⟩
      have st := st.new x91 n91
      simp only [List.cons_append, List.nil_append] at st
      -- no group
      have stop : oneG l p A1 l[j] = none → (st1 (⟨b2, 0, none⟩ : Addr) (.slice none 0 0) <| st1 ((⟨b2, 0, none⟩ : Addr).add 1) (.slice none 0 0) <| st1 ((⟨b2, 0, none⟩ : Addr).add 2) (.slice none 0 0) <|
          st1 (⟨b3, 0, none⟩ : Addr) (.int .u8 (0 : Int)) <| st1 (⟨b4, 0, none⟩ : Addr) (.bool false) <| st1 (⟨b5, 0, none⟩ : Addr) (.int .i64 (0 : Int)) <| jump .ret) h24 := by
        intro hone
        refine outW ⟨none, 0, 0⟩ ⟨none, 0, 0⟩ ⟨none, 0, 0⟩ st fun h25 st => hjump _ _ _ ⟨rfl, sN ?_, _, rfl⟩ st
        rw [hents]; exact groupsGo_stop _ _ _ hone
      refine jn_in fun J2 hJ2 => ?_
      by_cases he : (findP (failsP p A1 l[j].2) (clsE l)).2.2 = 0
      rotate_left
      · refine brT (by simpa using he) (hJ2 _ _ (brT rfl (by
          simpa only [addr_add, Nat.zero_add] using stop (by rw [oneG, if_neg (by simp [ho]), if_pos (.inl he)]))))
      refine brF (by simpa using he) ?_
      cases hfd : (findP (failsP p A1 l[j].2) (clsE l)).2.1 with
      | false =>
        refine hJ2 _ _ (brT rfl (by
          simpa only [addr_add, Nat.zero_add] using stop (by rw [oneG, if_neg (by simp [ho]), if_pos (.inr hfd)])))
      | true =>
        refine hJ2 _ _ (brF rfl ?_)
        obtain ⟨g1, g2⟩ := find_good hE hll hfd
        rw [ld_sl (i := 0) (st.fblk 2 rfl) rfl]
        refine call_of (named_c (st.fz 0 rfl) (st.own 10 rfl) g1 (by omega)) ?_
        rintro r95 h25 ⟨n95, x95⟩
        have st := st.new x95 n95
        simp only [List.cons_append, List.nil_append, addr_add, Nat.zero_add] at st ⊢
        refine st.st1 7 1 rfl (by simp) fun h26 st => ?_
        simp only [List.set_cons_zero, List.set_cons_succ] at st
        have st := ((st.drop 10 rfl).drop 9 rfl).drop 8 rfl
        exact put (named l (findP (failsP p A1 l[j].2) (clsE l)).1) r95 _ (by rw [oneG, if_neg (by simp [ho]), if_neg (fun q => q.elim (fun q => q he) (fun q => by rw [hfd] at q; cases q))]) st
  · rintro pre Bs h16 hfin ⟨gs, gps, sG, hg, hids, rfl⟩ st
    have hfin : pre = cdGo p l 0 := hfin
    rw [hfin, cd_ents] at hg
    simp only [B0, List.cons_append, List.nil_append] at st
    refine ldRow (τ := .cons .sl (.cons .sl (.cons .sl .nil))) (x := (s51, sI, sG, ())) (st.blk 4 rfl) ?_
    refine outW s51 sI sG st fun h17 st => fin _ _ _ _ _ _ _ _ (sS gs hg) st fun h2 st => ⟨?_, ?_, ?_⟩
    · exact newA_new (st.fz 8 rfl)
    · exact newA_new (st.fz 7 rfl)
    · exact ent_new (st.res (by simp) 5 rfl) (st.res (by simp) 6 rfl) hids
  · rintro Bs h16 ⟨_, hS, rest, rfl⟩ st
    exact fin ⟨[], [], []⟩ 0 false 0 ⟨none, 0, 0⟩ ⟨none, 0, 0⟩ ⟨none, 0, 0⟩ _ hS st fun h2 _ => none3 h2
end Go.Proofs.S
