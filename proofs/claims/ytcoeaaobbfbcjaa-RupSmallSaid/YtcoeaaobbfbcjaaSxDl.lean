/-
  slices.Delete of one element. Nothing here names a program.
-/
import Derived.Test.YtcoeaaobbfbcjaaSxW3
import Derived.Test.YtcoeaaobbfbcjaaSxOv
import Derived.Test.YtcoeaaobbfbcjaaRuY
import Derived.Test.YtcoeaaobbfbcjaaClC
set_option linter.unusedVariables false
set_option linter.unusedSimpArgs false
namespace Go.Sx
open Go
variable {fr : Fr} {G As : List Asn} {h : Heap} {τ : Ty} {xs : List τ.T} {s : Sl} {t : TypeId} {by_ : Nat} {z : Value}

def W_del (t : TypeId) (by_ : Nat) (z : Value) (s : Sl) (i j : Int) (K : Sl → HP) : HP :=
 slM ⟨s.a, s.len, s.cap⟩ i j (s.len : Int) 1 fun s0 =>
 brB (i == j)
 (K ⟨s.a, s.len, s.cap⟩)
 (slH ⟨s.a, s.len, s.cap⟩ i 1 fun s1 =>
 slL ⟨s.a, s.len, s.cap⟩ j 1 fun s2 =>
 apd t 1 by_ #[z] ⟨s1.a, s1.len, s1.cap⟩ ⟨s2.a, s2.len, s2.cap⟩ fun s3 =>
 slB ⟨s3.a, s3.len, s3.cap⟩ (s3.len : Int) (s.len : Int) 1 fun s4 =>
 clr #[z] ⟨s4.a, s4.len, s4.cap⟩ <|
 K ⟨s3.a, s3.len, s3.cap⟩)

theorem Hs.del {K : Sl → HP} (st : Hs fr G As h) (k : Nat) (hk : As[k]? = some (osl t τ.enc xs s)) (hleaf : Leaf τ) (hz : leafB z = true) {i : Nat} (hi : i < xs.length)
    (hK : ∀ s' h', Hs fr G (As.set k (osl t τ.enc (xs.eraseIdx i) s')) h' → K s' h') : W_del t by_ z s (i : Int) ((i + 1 : Nat) : Int) K h := by
  have hr := (st.own k hk).rsl
  have lcap := rsl_cap hr
  have l1 := rsl_len hr
  have hsub := rsl_sub hr (l := i + 1) (m := xs.length) (by omega) (Nat.le_refl _)
  rw [List.take_length] at hsub
  have hfc := rsl_first hsub
  obtain ⟨S1, p, hw⟩ := st.focus k hk
  rcases p with ⟨b, rest, eS, es, hb⟩ | ⟨_, ex, _⟩
  · subst es
    simp only at l1 lcap hfc
    refine ⟨Int.natCast_nonneg _, Int.ofNat_le.2 lcap, Int.natCast_nonneg _, Int.ofNat_le.2 (show i + 1 ≤ xs.length by omega), Int.natCast_nonneg _, Int.ofNat_le.2 (by omega), ?_⟩
    show brB _ _ _ h
    rw [show ((i : Int) == ((i + 1 : Nat) : Int)) = false by simp; omega, brB_false]
    refine ⟨Int.natCast_nonneg _, Int.ofNat_le.2 (show i ≤ xs.length + rest.length by omega), ?_⟩
    refine ⟨Int.natCast_nonneg _, Int.ofNat_le.2 (show i + 1 ≤ xs.length by omega), ?_⟩
    rw [Int.toNat_natCast, Int.toNat_natCast]
    have e1 : slR ⟨some ⟨b, 0, none⟩, xs.length, xs.length + rest.length⟩ 0 i 1 = ⟨some ⟨b, 0, none⟩, i, xs.length + rest.length⟩ := by
      rw [slR_at (by omega)]; simp
    rw [e1]
    refine ⟨(xs.drop (i + 1)).map τ.enc, hfc, fun hle => ?_, fun hgt => ?_⟩
    · simp only [slR] at hle ⊢
      rw [addr_add]
      refine stA_ok _ 0 hb (by simp; omega) (by intro v hv; obtain ⟨x, _, rfl⟩ := List.mem_map.1 hv; exact hleaf x) fun h' hb' x => ?_
      have e2 : i + (xs.length - (i + 1)) = xs.length - 1 := by omega
      simp only [e2]
      refine ⟨Int.natCast_nonneg _, Int.ofNat_le.2 (show xs.length ≤ xs.length + rest.length by omega), Int.natCast_nonneg _, Int.ofNat_le.2 (by omega), ?_⟩
      rw [Int.toNat_natCast, Int.toNat_natCast, slR_at (by omega)]
      unfold clr
      simp only
      have el : (xs.eraseIdx i).length = xs.length - 1 := List.length_eraseIdx_of_lt hi
      have ec : List.take (0 + i * 1 + 0) (List.map τ.enc xs ++ rest) ++ List.map τ.enc (List.drop (i + 1) xs) ++ List.drop (0 + i * 1 + 0 + (List.map τ.enc (List.drop (i + 1) xs)).length) (List.map τ.enc xs ++ rest) = (xs.eraseIdx i).map τ.enc ++ (List.map τ.enc xs ++ rest).drop (xs.length - 1) := by
        rw [show 0 + i * 1 + 0 = i by omega, List.take_append_of_le_length (by simp; omega), List.eraseIdx_eq_take_drop_succ, List.map_append, List.map_take]
        congr 2
        simp; omega
      rw [ec] at hb'
      refine stA_ok _ 0 hb' (by simp [Builtin.zeroCells, el]; omega) ?_ ?_
      · intro v hv
        simp [Builtin.zeroCells, Nat.mod_one] at hv
        obtain ⟨_, _, rfl⟩ := hv
        exact hz
      · intro h2 hb2 x2
        have ez : (Builtin.zeroCells #[z] (xs.length - (xs.length - 1))).toList = [z] := by
          rw [show xs.length - (xs.length - 1) = 1 by omega]; simp [Builtin.zeroCells]
        rw [ez] at hb2
        have e3 : List.take (0 + (xs.length - 1) + 0) (List.map τ.enc (xs.eraseIdx i) ++ List.drop (xs.length - 1) (List.map τ.enc xs ++ rest)) ++ [z] ++ List.drop (0 + (xs.length - 1) + 0 + [z].length) (List.map τ.enc (xs.eraseIdx i) ++ List.drop (xs.length - 1) (List.map τ.enc xs ++ rest)) = (xs.eraseIdx i).map τ.enc ++ (z :: rest) := by
          rw [show 0 + (xs.length - 1) + 0 = (List.map τ.enc (xs.eraseIdx i)).length by simp [el], List.take_left]
          rw [← List.drop_drop, List.drop_left, List.drop_drop]
          rw [show xs.length - 1 + [z].length = (List.map τ.enc xs).length by simp; omega, List.drop_left]
          simp
        rw [e3] at hb2
        refine hK _ _ (hw _ [b] _ ((by rw [eS]; exact x.trans x2 (fun y hy => .inl hy)) : Ext S1 h h2) (.inl ⟨b, z :: rest, rfl, ?_, hb2⟩) (by simp [eS]))
        rw [el]; simp; omega
    · simp only [slR] at hgt; omega
  · subst ex; simp at hi

end Go.Sx

/-
  RupFound.
-/
set_option linter.unusedVariables false
set_option linter.unusedSimpArgs false
namespace Go.Proofs.S
open Go Go.Sx Go.Proofs Go.Cl Go.Rp

variable {h : Heap} {c d A us o e : List Int} {cs ds hs l : List (List Int)} {s s2 s3 s4 : Sl} {fr : Fr} {G As : List Asn} {b n : Nat} {t : TypeId}

theorem erase_map {α β : Type} (f : α → β) : ∀ (L : List α) (i : Nat), (L.map f).eraseIdx i = (L.eraseIdx i).map f
  | [], i => by simp
  | x :: L, 0 => by simp
  | x :: L, i + 1 => by simp [erase_map f L i]

theorem index_int (hA : At h (li c s)) (hl : c.length ≤ 1099511627776) (v : Int) : callT Try.prog fn_slices_Index_int_int #[.slice s.a s.len s.cap, .int .i64 v] (.int .i64) (fun r h' => r = fidx (fun x => v == x) c ∧ h' = h) h :=
  callT_gen fun K hK => S_slices_Index_int_int (a0 := s) (a1 := v) K (w_index (τ := i64) (eq := fun x => v == x) hA hl (hK _ _ ⟨rfl, rfl⟩))
theorem contains_int (hA : At h (li c s)) (hl : c.length ≤ 1099511627776) (v : Int) : callT Try.prog fn_slices_Contains_int_int #[.slice s.a s.len s.cap, .int .i64 v] .bool (fun r h' => r = c.contains v ∧ h' = h) h := by
  refine callT_gen fun K hK => S_slices_Contains_int_int (a0 := s) (a1 := v) K ?_
  unfold F_slices_Contains_int_int
  refine call_of (index_int hA hl v) ?_
  rintro r h' ⟨rfl, rfl⟩
  exact hK _ _ ⟨by rw [fidx_ge, any_eq_contains], rfl⟩

theorem Hs.delG {ps : List Sl} (st : Hs fr G As h) (k : Nat) (hk : As[k]? = some (osl ty_clauses_Clause Ty.sl.enc ps s)) {i : Nat} (hi : i < ps.length) {K : Sl → HP}
    (hK : ∀ s' h', Hs fr G (As.set k (osl ty_clauses_Clause Ty.sl.enc (ps.eraseIdx i) s')) h' → K s' h') : callT Try.prog fn_slices_Delete_clauses_Clause_clauses_Clause #[.slice s.a s.len s.cap, .int .i64 i, .int .i64 (i + 1 : Nat)] .sl K h :=
  S_slices_Delete_clauses_Clause_clauses_Clause (a0 := s) (a1 := (i : Int)) (a2 := ((i + 1 : Nat) : Int)) K (Hs.del (τ := .sl) (t := ty_clauses_Clause) (by_ := 24) (z := .slice none 0 0) st k hk leaf_sl rfl hi hK)

set_option maxRecDepth 4000 in
theorem rupFound_F (hA : At h (l8 c s)) (hB : At h (ll8 cs s2)) (K : Bool → HP) (hK : ∀ x h', (x = true ∧ Ext [] h h') → K x h') : F_salvorlaw08_RupFound s s2 K h := by
  unfold F_salvorlaw08_RupFound
  have st := Hs.start h [l8 c s, ll8 cs s2] (by simp [hA, hB])
  refine call_of (awake_c h) ?_
  rintro _ h1 ⟨rfl, x1⟩
  refine brF rfl ?_
  have st := st.ext x1
  refine call_of (Made_c (st.fz 0 rfl)) ?_
  rintro r1 h2 ⟨n2, x2⟩
  have st := (st.new x2 n2).froz 0 rfl
  refine call_of (All_c (m := 14) (st.fz 1 rfl) (by decide)) ?_
  rintro r2 h3 ⟨n3, x3⟩
  obtain ⟨ps, lp, st⟩ := Hs.rowsF (st.new x3 n3) 0 rfl
  have hc := madeR_right c
  have hr := allR_right cs 14
  have hl := allR_len cs 14
  have hcl := madeR_len c
  have hfu := allR_fuel cs 14 (by decide)
  generalize madeR c = mc at *
  generalize allR cs 14 = l at *
  have hl' : l.length ≤ 65536 := by omega
  simp only [List.cons_append, List.nil_append, List.eraseIdx_cons_zero] at st
  generalize hGG : (l8 c s :: ll8 cs s2 :: rsl i64.enc mc r1 :: rsl Ty.sl.enc ps r2 :: lli l r2 :: rows l ps) = G1 at st
  have g2' : G1[2]? = some (li mc r1) := by rw [← hGG]; rfl
  have g3' : G1[3]? = some (rsl Ty.sl.enc ps r2) := by rw [← hGG]; rfl
  have g4' : G1[4]? = some (lli l r2) := by rw [← hGG]; rfl
  have gr' : ∀ i (h1 : i < l.length) (h2 : i < ps.length), li l[i] ps[i] ∈ G1 := fun i h1 h2 => by
    rw [← hGG]
    have := rows_mem h1 h2
    simp [this]
  refine call_of (Find_c (st.fz 2 g2') (st.fz 4 g4') (by omega) (by omega) hfu) ?_
  rintro _ h5 ⟨s5, rfl, n5, x5⟩
  have st := (st.new x5 n5).froz 0 rfl
  simp only [List.nil_append, List.eraseIdx_cons_zero] at st
  have fe := find_err hc hr hl'
  have lr2 : r2.len = l.length := rsg_len (st.fz 4 (by rw [List.getElem?_append_left (List.getElem?_eq_some_iff.1 g4').1]; exact g4'))
  simp only
  rw [fe]
  refine jn_in fun J hJ => brF rfl (hJ _ _ ?_)
  cases hf : (findP mc l).2.1
  · refine brT rfl (jn_in fun J2 hJ2 => brT rfl (hJ2 _ _ (hK _ _ ⟨?_, st.frame (by simp)⟩)))
    have e0 : (findP mc l).1 = [] := by
      obtain ⟨ha, _⟩ := find_no hc hr hl' hf
      rcases find_cases hc hr hl' ha with ⟨e, _⟩ | ⟨_, _, _, _, _, _, e⟩
      · rw [e]
      · rw [e] at hf; cases hf
    have := rsl_len (st.fzL)
    rw [e0] at this
    simp [nats] at this
    simp [this]
  refine brF rfl ?_
  have law := found_law hc hr hl' hf
  generalize (findP mc l).1 = F at *
  generalize hG2 : G1 ++ [rsl i64.enc (nats F) s5] = GG at st
  have up : ∀ {k : Nat} {A : Asn}, G1[k]? = some A → GG[k]? = some A := fun {k A} hk => by
    rw [← hG2, List.getElem?_append_left (List.getElem?_eq_some_iff.1 hk).1]; exact hk
  have mF : li (nats F) s5 ∈ GG := by rw [← hG2]; simp
  have gr : ∀ i (h1 : i < l.length) (h2 : i < ps.length), li l[i] ps[i] ∈ GG := fun i h1 h2 => by rw [← hG2]; exact List.mem_append_left _ (gr' i h1 h2)
  have g2 := up g2'
  have g3 := up g3'
  have hFl := nodup_bound _ law.nodup law.lt
  have lF : (nats F).length = F.length := by simp [nats]
  have ls5 := rsl_len (st.fzm mF)
  have cs5 := rsl_cap (st.fzm mF)
  have getF : ∀ i (hi : i < F.length), (nats F)[i]'(by omega) = ((F[i] : Nat) : Int) := fun i hi => by simp [nats]
  have st := st.nil ty_clauses_Clause Ty.sl.enc none
  refine lfp_invh (I := fun m σ h' => ∃ (i : Nat) (hh : Sl) (x : Bool), σ = ((i : Int), hh, x, ()) ∧ i ≤ F.length ∧ m = F.length - i ∧ Hs [([], h)] GG [hio ps (F.take i) hh] h')
    ⟨_, 0, ⟨none, 0, 0⟩, false, rfl, by omega, rfl, st⟩ ?_
  clear st
  rintro m σ h7 X ⟨i, hh, x, rfl, hi, rfl, st⟩ hX
  simp only
  by_cases hlt : i < F.length
  · refine brT (by rw [ls5, lF]; exact dlt_t hlt) ?_
    refine rdE (τ := i64) (st.fzm mF) (i := i) (by omega) ?_
    rw [getF i hlt]
    have hk := law.lt _ (List.getElem_mem hlt)
    have hkp : F[i] < ps.length := by omega
    refine jn_in fun J hJ => brF (decide_eq_false (show ¬ (((F[i] : Nat) : Int) < 0) by omega)) ?_
    rw [show decide (((F[i] : Nat) : Int) ≥ (r2.len : Int)) = false from decide_eq_false (by rw [lr2]; omega)]
    refine hJ _ _ (jn_in fun J2 hJ2 => brF rfl ?_)
    refine ⟨by omega, by show (i : Int) ≤ (s5.cap : Int); omega, ?_⟩
    rw [Int.toNat_natCast]
    have hpre := rsl_sub (st.fzm mF) (l := 0) (m := i) (by omega) (by omega)
    rw [List.drop_zero] at hpre
    refine call_of (contains_int hpre (by simp [nats]; omega) _) ?_
    rintro _ h8 ⟨rfl, e'⟩; subst e'
    have hnc : ((nats F).take i).contains ((F[i] : Nat) : Int) = false := by
      rw [List.contains_eq_mem, decide_eq_false]
      intro hm
      simp only [nats, ← List.map_take, List.mem_map] at hm
      obtain ⟨y, hy, e⟩ := hm
      have e : y = F[i] := by omega
      subst e
      obtain ⟨j, hj, e⟩ := List.mem_take_iff_getElem.1 hy
      exact List.pairwise_iff_getElem.1 law.nodup j i (by omega) hlt (by omega) e
    rw [hnc]
    refine hJ2 _ _ (brF rfl ?_)
    refine rdE (τ := .sl) (st.fz 3 g3) hkp ?_
    refine st.nw fun b18 h9 st => ?_
    have lh : (hdrs ps (F.take i)).length ≤ 14 := by simp [hdrs]; omega
    refine st.apd 0 1 rfl rfl (by decide) rfl (by omega) (by decide) rfl fun s19 h10 st => ?_
    have st := st.drop 1 rfl
    rw [inc_i (by omega)]
    have eH : hdrs ps (F.take i) ++ [ps[F[i]]] = hdrs ps (F.take (i + 1)) := by rw [take_lt hlt]; simp only [hdrs, List.map_append, List.map_cons, List.map_nil]; rw [getD_lt hkp]
    rw [eH] at st
    exact hX _ _ _ ⟨i + 1, s19, x, rfl, by omega, rfl, st⟩ (by omega)
  · refine brF (by rw [ls5, lF]; exact dlt_f hlt) ?_
    rw [List.take_of_length_le (by omega)] at st
    have hrow := fun {h' : Heap} {As : List Asn} (st : Hs [([], h)] GG As h') i (h1 : i < l.length) (h2 : i < ps.length) => st.fzm (gr i h1 h2)
    have lhh : hh.len = F.length := by
      have := osl_len (st.own 0 rfl); simpa [hdrs] using this
    refine call_of (Check_c (st.fz 2 g2) (hdrs_lli lp law.lt (st.own 0 rfl).rsl (hrow st)) (by omega) (by simp; omega)) ?_
    rintro _ h8 ⟨rfl, x8⟩
    have st := st.ext x8
    refine call_of (Trim_c (st.fz 2 g2) (hdrs_lli lp law.lt (st.own 0 rfl).rsl (hrow st)) (by omega) (by simp; omega)) ?_
    rintro _ h9 ⟨s9, rfl, n9, x9⟩
    have st := st.new x9 n9
    rw [law.chk, law.num, law.trim] at *
    have lR : (nats (List.range F.length)).length = F.length := by simp [nats]
    have ls9 := osl_len (st.own 1 rfl)
    rw [lR] at ls9
    refine jn_in fun J hJ => brF rfl (hJ _ _ ?_)
    refine jn_in fun J2 hJ2 => brF (by simp [lhh]) (hJ2 _ _ ?_)
    refine brF (by simp [ls9]) ?_
    refine lfp_invh (I := fun m σ h' => ∃ (i : Nat) (x : Bool), σ = ((i : Int), x, ()) ∧ i ≤ F.length ∧ m = F.length - i ∧ Hs [([], h)] GG [hio ps F hh, nio (List.range F.length) s9] h')
      ⟨_, 0, x, rfl, by omega, rfl, st⟩ ?_
    clear st
    rintro m σ h10 X3 ⟨i, x, rfl, hi, rfl, st⟩ hX3
    simp only
    by_cases hlt : i < F.length
    · refine brT (by rw [lhh]; exact dlt_t hlt) ?_
      refine rdE (τ := i64) (st.own 1 rfl).rsl (i := i) (by omega) ?_
      have eR : (nats (List.range F.length))[i]'(by omega) = (i : Int) := by simp [nats]
      rw [eR]
      refine brF (by simp) ?_
      have lh : (hdrs ps F).length = F.length := by simp [hdrs]
      refine cloneG_c st (st.own 0 rfl).rsl (by omega) fun r32 h11 st => ?_
      rw [inc_i (by omega)]
      refine Hs.delG st 2 rfl (i := i) (by omega) fun r33 h12 st => ?_
      have eE : (hdrs ps F).eraseIdx i = hdrs ps (F.eraseIdx i) := by simp only [hdrs]; rw [erase_map]
      rw [eE] at st
      have eM : ((F.eraseIdx i).map fun k => l.getD k []) = (F.map fun k => l.getD k []).eraseIdx i := by rw [erase_map]
      have hlti : ∀ k ∈ F.eraseIdx i, k < l.length := fun k hk => law.lt k (List.mem_of_mem_eraseIdx hk)
      have hle := List.length_eraseIdx_le F i
      refine call_of (Check_c (st.fz 2 g2) (hdrs_lli lp hlti (st.own 2 rfl).rsl (hrow st)) (by omega) (by simp; omega)) ?_
      rintro _ h13 ⟨rfl, x13⟩
      have st := (st.ext x13).drop 2 rfl
      rw [eM]
      have next : X3 (((i + 1 : Nat) : Int), x, ()) h13 := hX3 _ _ _ ⟨i + 1, x, rfl, by omega, rfl, st⟩ (by omega)
      have hls := law.less i hlt
      refine jn_in fun J3 hJ3 => ?_
      rcases hls with e | e
      · exact brF (by rw [e]; rfl) (hJ3 _ _ (brF rfl next))
      · refine brT (by rw [e]; rfl) (hJ3 _ _ (brF (by rw [e]; rfl) next))
    · exact brF (by rw [lhh]; exact dlt_f hlt) (hK _ _ ⟨rfl, st.frame (by simp)⟩)

end Go.Proofs.S
