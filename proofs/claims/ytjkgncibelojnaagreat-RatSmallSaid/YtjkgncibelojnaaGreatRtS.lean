/-
  What Search answers, and that the step it finds is right. No program here.
-/
import Derived.Test.YtjkgncibelojnaaGreatRtQ
import Derived.Test.YtjkgncibelojnaaGreatSxG
import Derived.Test.YtjkgncibelojnaaGreatSxN
import Derived.Test.YtjkgncibelojnaaGreatSxSg
import Derived.Test.YtjkgncibelojnaaGreatSxSort
set_option linter.unusedVariables false
set_option linter.unusedSimpArgs false
namespace Go.Rt
open Go Go.Cl Go.Rp
variable {l : List Ent} {A B c : List Int} {p : Int}
abbrev clsE (l : List Ent) : List (List Int) := l.map (·.2)
abbrev failsP (p : Int) (A d : List Int) : List Int := (A ++ (restP p A d).1).map fun x => -x
def groupsGo (l : List Ent) (p : Int) (A : List Int) : List Ent → Option (List Grp)
  | [] => some []
  | x :: xs =>
    if (restP p A x.2).2 = false then (groupsGo l p A xs).map fun gs => (x.1, []) :: gs
    else if (findP (failsP p A x.2) (clsE l)).2.2 ≠ 0 ∨ (findP (failsP p A x.2) (clsE l)).2.1 = false then none
    else (groupsGo l p A xs).map fun gs => (x.1, named l (findP (failsP p A x.2) (clsE l)).1) :: gs
def fuelE (l : List Ent) : Nat := fuelP (clsE l)
def searchP (l : List Ent) (c : List Int) : Stp × Int × Bool × Int :=
  if !rightE l then (⟨[], [], []⟩, 0, false, 90)
  else if (findP c (clsE l)).2.2 = 20 then (⟨[], [], []⟩, 0, false, 20)
  else if (findP c (clsE l)).2.1 = true then (⟨c, named l (findP c (clsE l)).1, []⟩, 1, true, 0)
  else match c with
    | [] => (⟨[], [], []⟩, 0, false, 0)
    | p :: r =>
      if (findP (p :: r) (clsE l)).2.2 ≠ 0 then (⟨[], [], []⟩, 0, false, 0)
      else match groupsGo l p (propGo l (fuelE l) (negs (p :: r)) []).1 (l.filter (isCand p)) with
        | none => (⟨[], [], []⟩, 0, false, 0)
        | some gs => (⟨p :: r, (propGo l (fuelE l) (negs (p :: r)) []).2, gs⟩, 2, true, 0)
theorem cls_right (h : rightE l = true) : ∀ d ∈ clsE l, rightC d = true := fun d hd => by
  obtain ⟨x, hx, rfl⟩ := List.mem_map.1 hd
  exact rightE_rt h x hx
theorem scan_ok {want : List Int} : ∀ {gs : List Grp} {last : Int}, (∀ g ∈ gs, g.1 ∈ want) → gs.Pairwise (fun x y => x.1 < y.1) → (∀ g ∈ gs, last < g.1) → scanG want last gs = (0, 0)
  | [], _, _, _, _ => rfl
  | g :: gs, last, h1, h2, h3 => by
    simp only [scanG]
    have a := h1 g (by simp)
    have b := h3 g (by simp)
    rw [if_neg (by rintro (h | h); exact h a; omega)]
    obtain ⟨c, d⟩ := List.pairwise_cons.1 h2
    exact scan_ok (fun x hx => h1 x (by simp [hx])) d c
theorem groupsGo_fst : ∀ {xs : List Ent} {gs : List Grp}, groupsGo l p A xs = some gs → gs.map (·.1) = xs.map (·.1)
  | [], gs, h => by simp only [groupsGo, Option.some.injEq] at h; subst h; rfl
  | x :: xs, gs, h => by
    simp only [groupsGo] at h
    split at h
    · obtain ⟨g', hg, rfl⟩ := Option.map_eq_some_iff.1 h
      simp [groupsGo_fst hg]
    · split at h
      · cases h
      · obtain ⟨g', hg, rfl⟩ := Option.map_eq_some_iff.1 h
        simp [groupsGo_fst hg]
theorem groupsGo_each : ∀ {xs : List Ent} {gs : List Grp}, groupsGo l p A xs = some gs → ∀ g ∈ gs, ∃ x ∈ xs, g.1 = x.1 ∧ ((restP p A x.2).2 = false ∨ ((findP (failsP p A x.2) (clsE l)).2.1 = true ∧ g.2 = named l (findP (failsP p A x.2) (clsE l)).1))
  | [], gs, h, g, hg => by simp only [groupsGo, Option.some.injEq] at h; subst h; cases hg
  | x :: xs, gs, h, g, hg => by
    simp only [groupsGo] at h
    split at h
    · rename_i ho
      obtain ⟨g', hg', rfl⟩ := Option.map_eq_some_iff.1 h
      rcases List.mem_cons.1 hg with rfl | hg
      · exact ⟨x, by simp, rfl, .inl ho⟩
      · obtain ⟨y, hy, e⟩ := groupsGo_each hg' g hg
        exact ⟨y, by simp [hy], e⟩
    · split at h
      · cases h
      · rename_i hf
        obtain ⟨g', hg', rfl⟩ := Option.map_eq_some_iff.1 h
        rcases List.mem_cons.1 hg with rfl | hg
        · refine ⟨x, by simp, rfl, .inr ⟨?_, rfl⟩⟩
          simp only [not_or, Bool.not_eq_false] at hf
          exact hf.2
        · obtain ⟨y, hy, e⟩ := groupsGo_each hg' g hg
          exact ⟨y, by simp [hy], e⟩
theorem propGo_ok (hr : ∀ x ∈ l, ∀ y ∈ x.2, rt y = true) : ∀ (n : Nat) {A ids : List Int}, okA A = true → okA (propGo l n A ids).1 = true ∧ ∀ x ∈ A, x ∈ (propGo l n A ids).1
  | 0, A, ids, h => ⟨h, fun x hx => hx⟩
  | n + 1, A, ids, h => by
    simp only [propGo]
    split
    · exact ⟨h, fun x hx => hx⟩
    · rename_i x hx
      have hm := List.mem_of_find?_eq_some hx
      have h3 := List.find?_some hx
      simp only [beq_iff_eq] at h3
      have hu := look_unit' h3
      obtain ⟨a, b⟩ := propGo_ok hr n (ids := ids ++ [x.1]) (okA_snoc h (hr x hm _ hu.2.1) hu.2.2.1)
      exact ⟨a, fun y hy => b y (List.mem_append_left _ hy)⟩
theorem rightE_sorted (h : rightE l = true) : l.Pairwise (fun x y => x.1 < y.1) ∧ ∀ x ∈ l, 0 < x.1 := by
  unfold rightE at h
  rw [Bool.and_eq_true] at h
  have key : ∀ {l : List Ent} {last : Int}, rightGo last l = true → (∀ x ∈ l, last < x.1) ∧ l.Pairwise (fun x y => x.1 < y.1) := by
    intro l
    induction l with
    | nil => intro _ _; simp
    | cons y l ih =>
      intro last h
      simp only [rightGo, Bool.and_eq_true, decide_eq_true_eq] at h
      obtain ⟨a, b⟩ := ih h.2
      refine ⟨fun x hx => ?_, List.pairwise_cons.2 ⟨a, b⟩⟩
      rcases List.mem_cons.1 hx with rfl | hx
      · exact h.1.1.1
      · have := a x hx; omega
  exact ⟨(key h.1).2, (key h.1).1⟩
end Go.Rt
namespace Go.Sx
open Go
abbrev tPr : Ty := .cons (.int .i64) (.cons .sl .nil)
theorem widePr : Wide 2 tPr.vals := fun _ => rfl
def rsp (I : List Int → Sl → Asn) (xs : List (Int × List Int)) (s : Sl) : Asn where
  P := fun S h => ∃ (ps : List tPr.T) (S1 S2 : List Nat), S = S1 ++ S2 ∧ (rsn 2 tPr.vals ps s).P S1 h ∧ ps.map (fun p => p.1) = xs.map (fun x => x.1) ∧ Inner I (xs.map fun x => x.2) (ps.map fun p => p.2.1) S2 h
  loc := fun {S h h'} ⟨ps, S1, S2, e, hp, hm, hi⟩ hz hk => by
    subst e
    exact ⟨ps, S1, S2, rfl, (rsn 2 tPr.vals ps s).loc hp hz fun b hb => hk b (List.mem_append_left _ hb), hm, hi.loc hz fun b hb => hk b (List.mem_append_right _ hb)⟩
  cel := fun {S h} ⟨ps, S1, S2, e, hp, hm, hi⟩ b hb => by
    subst e
    rcases List.mem_append.1 hb with hb | hb
    · exact (rsn 2 tPr.vals ps s).cel hp b hb
    · exact hi.cel b hb
section
variable {I : List Int → Sl → Asn} {xs : List (Int × List Int)} {s : Sl} {h h' : Heap} {fr : Fr} {G As : List Asn}
theorem rsp_open (hA : At h (rsp I xs s)) : ∃ ps : List tPr.T, ps.length = xs.length ∧ At h (rsn 2 tPr.vals ps s) ∧ ∀ i (h1 : i < xs.length) (h2 : i < ps.length), ps[i].1 = xs[i].1 ∧ At h (I xs[i].2 ps[i].2.1) := by
  obtain ⟨S, ps, S1, S2, e, hp, hm, hi⟩ := hA
  have hl : ps.length = xs.length := by simpa using congrArg List.length hm
  refine ⟨ps, hl, ⟨S1, hp⟩, fun i h1 h2 => ⟨?_, ?_⟩⟩
  · have := congrArg (fun l => l[i]?) hm
    simpa [h1, h2] using this
  · have := hi.get i (by simpa using h1) (by simpa using h2)
    simpa using this
theorem rsp_new {n : Nat} {ps : List tPr.T} (hl : ps.length = xs.length) (ho : New n h (rsn 2 tPr.vals ps s)) (hi : ∀ i (h1 : i < xs.length) (h2 : i < ps.length), ps[i].1 = xs[i].1 ∧ New n h (I xs[i].2 ps[i].2.1)) : New n h (rsp I xs s) := by
  obtain ⟨S1, hp, g1⟩ := ho
  obtain ⟨S2, hs, g2⟩ := Inner.make (I := I) (n := n) (xs := xs.map fun x => x.2) (ps := ps.map fun p => p.2.1) (h := h) (by simpa using hl) fun i h1 h2 => by
    simpa using (hi i (by simpa using h1) (by simpa using h2)).2
  refine ⟨S1 ++ S2, ⟨ps, S1, S2, rfl, hp, ?_, hs⟩, fun b hb => (List.mem_append.1 hb).elim (g1 b) (g2 b)⟩
  refine List.ext_getElem (by simpa using hl) fun i h1 h2 => ?_
  simpa using (hi i (by simpa using h2) (by simpa using h1)).1
theorem rsp_at {ps : List tPr.T} (hl : ps.length = xs.length) (ho : At h (rsn 2 tPr.vals ps s)) (hi : ∀ i (h1 : i < xs.length) (h2 : i < ps.length), ps[i].1 = xs[i].1 ∧ At h (I xs[i].2 ps[i].2.1)) : At h (rsp I xs s) :=
  (rsp_new hl ho.new0 fun i h1 h2 => ⟨(hi i h1 h2).1, (hi i h1 h2).2.new0⟩).at
theorem rsp_len (hA : At h (rsp I xs s)) : s.len = xs.length := by
  obtain ⟨ps, hl, ho, _⟩ := rsp_open hA
  rw [rsn_len ho, hl]
theorem rsp_nil (n : Nat) (a : Option Addr) (h : Heap) : New n h (rsp I [] ⟨a, 0, 0⟩) :=
  rsp_new (ps := []) rfl ⟨[], ⟨rfl, Nat.le_refl _, .inl ⟨rfl, rfl⟩⟩, by simp⟩ fun i h1 _ => by simp at h1
theorem rdPr (hA : At h (rsp I xs s)) {i : Nat} (hi : i < xs.length) {K : tPr.T → HP} (hK : ∀ p : Sl, At h (I xs[i].2 p) → K (xs[i].1, p, ()) h) : sx s.a s.len (i : Int) 2 (fun p => ldA tPr p K) h := by
  obtain ⟨ps, hl, ho, hx⟩ := rsp_open hA
  have hi2 : i < ps.length := by omega
  obtain ⟨e, hI⟩ := hx i hi hi2
  refine rdN (τ := tPr) ho hi2 ?_
  have e2 : ps[i] = (xs[i].1, ps[i].2.1, ()) := by rw [← e]
  rw [e2]; exact hK _ hI
theorem rdPri (hA : At h (rsp I xs s)) {i : Nat} (hi : i < xs.length) {K : Int → HP} (hK : K xs[i].1 h) : sx s.a s.len (i : Int) 2 (fun p => ldT (.int .i64) p K) h := by
  obtain ⟨ps, hl, ho, hx⟩ := rsp_open hA
  have hi2 : i < ps.length := by omega
  obtain ⟨e, hI⟩ := hx i hi hi2
  exact rdN0 (σ := .int .i64) ho hi2 (v := xs[i].1) (by rw [← e]; rfl) hK
theorem rdPrs (hA : At h (rsp I xs s)) {i : Nat} (hi : i < xs.length) {K : Sl → HP} (hK : ∀ p : Sl, At h (I xs[i].2 p) → K p h) : sx s.a s.len (i : Int) 2 (fun p => ldT .sl (p.add 1) K) h := by
  obtain ⟨ps, hl, ho, hx⟩ := rsp_open hA
  have hi2 : i < ps.length := by omega
  obtain ⟨e, hI⟩ := hx i hi hi2
  exact rdNf (σ := .sl) ho hi2 1 (v := ps[i].2.1) rfl (hK _ hI)
end
end Go.Sx
namespace Go.Sx
open Go
section
variable {τ : Ty} {xs : List τ.T} {s s2 : Sl} {h : Heap} {fr : Fr} {G As : List Asn} {t : TypeId} {b : Nat}
theorem Hs.apdF {v : τ.T} {by_ : Nat} {z : Array Value} {K : Sl → HP} (st : Hs fr G As h) (kx : Nat) (hA : At h (rsl τ.enc xs s)) (hfull : s.cap = s.len) (hkx : As[kx]? = some (cl b t [τ.enc v]))
    (hlen : (xs.length + 1) * by_ ≤ 140737488355328) (hby : 0 < by_) (hz : z.size = 1)
    (hK : ∀ s' h', Hs fr G (As ++ [osl t τ.enc (xs ++ [v]) s']) h' → K s' h') : Sx.apd t 1 by_ z s ⟨some ⟨b, 0, none⟩, 1, 1⟩ K h := by
  have hx := st.blk kx hkx
  have hl := rsl_len hA
  refine ⟨[τ.enc v], ⟨rfl, CellsAt_blk' _ hx 0 (by intro j hj; simp at hj; subst hj; rfl)⟩, fun hle => ?_, fun hgt => ?_⟩
  · exfalso; simp only [hfull] at hle; omega
  · simp only [hl] at hgt ⊢
    refine ⟨hlen, hby, ?_⟩
    have hf := rsl_first hA
    rw [hl] at hf
    refine ⟨_, hf, fun nc h1 h2 => ?_⟩
    refine hK _ _ (st.new ((Ext.refl' [] h).push _) ⟨[h.size], .inl ⟨h.size, (Builtin.zeroCells z (nc - (xs.length + 1))).toList, rfl, ?_, ?_⟩, by simp⟩)
    · have h1' : xs.length + 1 ≤ nc := by simpa [hl] using h1
      simp [Builtin.zeroCells, hz]
      omega
    · have := Blk.new h t (((xs.map τ.enc).toArray ++ #[τ.enc v]) ++ Builtin.zeroCells z (nc - (xs.length + 1)))
      simpa using this
theorem Hs.pr (st : Hs fr G As h) {x : Int} {s' : Sl} {K : Nat → HP} (hK : ∀ b h', Ext [] h h' → Hs fr G (As ++ [cl b t [.int .i64 x, .slice s'.a s'.len s'.cap]]) h' → K b h') :
    Sx.nw #[.int .i64 0, .slice none 0 0] t (fun b => Sx.st1 ⟨b, 0, none⟩ (.int .i64 x) <| Sx.st1 ((⟨b, 0, none⟩ : Addr).add 1) (.slice s'.a s'.len s'.cap) <| K b) h := by
  rw [nw_eq]
  have x0 : Ext [] h (h.push (.cells #[.int .i64 0, .slice none 0 0] t)) := (Ext.refl' [] h).push _
  have st : Hs fr G (As ++ [cl h.size t [.int .i64 0, .slice none 0 0]]) (h.push (.cells #[.int .i64 0, .slice none 0 0] t)) := st.new x0 ⟨[h.size], ⟨rfl, Blk.new h t #[.int .i64 0, .slice none 0 0]⟩, by simp⟩
  simp only [addr_add, Nat.zero_add]
  rw [st_ok (st.blk As.length (lastA _ _)) (by simp)]
  have st := st.set1 As.length 0 (lastA _ _) (.int .i64 x)
  have x1 : Ext [] h (setC (h.push (.cells #[.int .i64 0, .slice none 0 0] t)) ⟨h.size, 0, none⟩ (.int .i64 x)) := x0.set _ _ (.inr (Nat.le_refl _))
  rw [List.set_append_right _ _ (Nat.le_refl _), Nat.sub_self, List.set_cons_zero] at st
  rw [st_ok (st.blk As.length (lastA _ _)) (by simp)]
  have st := st.set1 As.length 1 (lastA _ _) (.slice s'.a s'.len s'.cap)
  rw [List.set_append_right _ _ (Nat.le_refl _), Nat.sub_self, List.set_cons_zero] at st
  exact hK _ _ (x1.set _ _ (.inr (Nat.le_refl _))) st
end
end Go.Sx
namespace Go.Sx
open Go
variable {P : Program} {τ : Ty} {xs : List τ.T} {s : Sl} {h : Heap}
def W_bsearchN (P : Program) (τ σ2 : Ty) (n : Nat) (s : Sl) (v : σ2.T) (fv : Value) (K : (Int × Bool × Unit) → HP) : HP :=
  lfp (σ := Int × Int × Unit) (fun X0 s1 => brB (decide (s1.2.1 < s1.1))
    (ge0 (1 : Int) <| sx s.a s.len (IntKind.wrap .i64 (Int.fdiv (IntKind.wrap .u64 (IntKind.wrap .i64 (s1.2.1 + s1.1))) (2 ^ (min ((1 : Int)).toNat 64)))) n fun p2 => ldA τ p2 fun x3 =>
      callF P fv #[.agg (τ.vals x3).toArray, σ2.enc v] (.int .i64) fun r4 =>
      jn (σ := Int × Int × Unit) (fun s6 => X0 (s6.1, s6.2.1, ())) (fun J5 => brB (decide (r4 < (0 : Int)))
        (J5 (s1.1, (IntKind.wrap .i64 ((IntKind.wrap .i64 (Int.fdiv (IntKind.wrap .u64 (IntKind.wrap .i64 (s1.2.1 + s1.1))) (2 ^ (min ((1 : Int)).toNat 64)))) + (1 : Int))), ()))
        (J5 ((IntKind.wrap .i64 (Int.fdiv (IntKind.wrap .u64 (IntKind.wrap .i64 (s1.2.1 + s1.1))) (2 ^ (min ((1 : Int)).toNat 64)))), s1.2.1, ()))))
    (brB (decide (s1.2.1 < (s.len : Int))) (sx s.a s.len s1.2.1 n fun p7 => ldA τ p7 fun x8 => callF P fv #[.agg (τ.vals x8).toArray, σ2.enc v] (.int .i64) fun r9 => K (s1.2.1, (r9 == (0 : Int)), ())) (K (s1.2.1, false, ()))))
    ((s.len : Int), (0 : Int), ())
theorem w_bsearchN {σ2 : Ty} {fv : Value} {v : σ2.T} {c : τ.T → Int} {n : Nat} (hA : At h (rsn n τ.vals xs s)) (hl : xs.length ≤ 1099511627776)
    (hc : ∀ x ∈ xs, ∀ h', Ext [] h h' → callF P fv #[.agg (τ.vals x).toArray, σ2.enc v] (.int .i64) (fun r h2 => r = c x ∧ Ext [] h' h2) h')
    (hm : ∀ i j (hj : j < xs.length) (hij : i < j), c xs[j] < 0 → c (xs[i]'(by omega)) < 0) {K : (Int × Bool × Unit) → HP}
    (hK : ∀ (i : Nat) (b : Bool) h', Ext [] h h' → i ≤ xs.length → (∀ j (hj : j < xs.length), j < i → c xs[j] < 0) → (∀ j (hj : j < xs.length), i ≤ j → ¬ c xs[j] < 0) → (b = true ↔ ∃ hi : i < xs.length, c xs[i] = 0) → K ((i : Int), b, ()) h') :
    W_bsearchN P τ σ2 n s v fv K h := by
  have l1 := rsn_len hA
  unfold W_bsearchN
  rw [l1]
  refine lfp_invh (I := fun m σ h' => ∃ i j : Nat, σ = ((j : Int), (i : Int), ()) ∧ i ≤ j ∧ j ≤ xs.length ∧ (∀ k (hk : k < xs.length), k < i → c xs[k] < 0) ∧ (∀ k (hk : k < xs.length), j ≤ k → ¬ c xs[k] < 0) ∧ Ext [] h h' ∧ m = j - i)
    ⟨_, 0, xs.length, rfl, by omega, by omega, fun k _ hk => by omega, fun k hk hk' => by omega, Ext.refl' _ _, rfl⟩ ?_
  rintro m σ h' X ⟨i, j, rfl, hij, hj, hlo, hhi, x, em⟩ hX
  by_cases hlt : i < j
  · have hmid : (i + j) / 2 < xs.length := by omega
    simp only [dlt_t hlt, brB_true, ge0_ok (show (0 : Int) ≤ 1 by decide), mid_eq (show i ≤ 1099511627776 by omega) (show j ≤ 1099511627776 by omega), inc_i (show (i + j) / 2 < 4611686018427387904 by omega)]
    rw [← l1]
    refine rdN (hA.ext x) hmid ?_
    refine callF_of (hc _ (List.getElem_mem hmid) h' x) ?_
    rintro r h2 ⟨rfl, x2⟩
    refine jn_in fun J hJ => ?_
    by_cases hneg : c xs[(i + j) / 2] < 0
    · simp only [hneg, decide_true, brB_true]
      refine hJ _ _ (hX _ _ _ ⟨(i + j) / 2 + 1, j, rfl, by omega, hj, fun k hk hki => ?_, hhi, x.nil_trans x2, rfl⟩ (by omega))
      rcases Nat.lt_or_ge k ((i + j) / 2) with hk2 | hk2
      · exact hm k _ hmid hk2 hneg
      · have : k = (i + j) / 2 := by omega
        subst this; exact hneg
    · simp only [hneg, decide_false, brB_false]
      refine hJ _ _ (hX _ _ _ ⟨i, (i + j) / 2, rfl, by omega, by omega, hlo, fun k hk hki hc' => ?_, x.nil_trans x2, rfl⟩ (by omega))
      rcases Nat.lt_or_ge ((i + j) / 2) k with hk2 | hk2
      · exact hneg (hm _ k hk hk2 hc')
      · have : k = (i + j) / 2 := by omega
        subst this; exact hneg hc'
  · have eij : i = j := by omega
    subst eij
    simp only [dlt_f hlt, brB_false]
    by_cases hin : i < xs.length
    · simp only [dlt_t hin, brB_true]
      rw [← l1]
      refine rdN (hA.ext x) hin ?_
      refine callF_of (hc _ (List.getElem_mem hin) h' x) ?_
      rintro r h2 ⟨rfl, x2⟩
      exact hK i _ h2 (x.nil_trans x2) hj hlo hhi ⟨fun e => ⟨hin, by simpa using e⟩, fun ⟨_, e⟩ => by simp [e]⟩
    · simp only [dlt_f hin, brB_false]
      exact hK i false h' x hj hlo hhi ⟨fun e => (by cases e), fun ⟨hi, _⟩ => absurd hi hin⟩
end Go.Sx
