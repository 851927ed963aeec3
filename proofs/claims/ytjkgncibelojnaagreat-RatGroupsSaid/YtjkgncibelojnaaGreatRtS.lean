/-
  What Search answers, and that the step it finds is right. No program here.
-/
import Derived.Test.YtjkgncibelojnaaGreatRtQ
import Derived.Test.YtjkgncibelojnaaGreatSxG
import Derived.Test.YtjkgncibelojnaaGreatSxN
import Derived.Test.YtjkgncibelojnaaGreatSxSg
import Derived.Test.YtjkgncibelojnaaGreatSxCp
import Derived.Test.YtjkgncibelojnaaGreatSxSort
set_option linter.unusedVariables false
set_option linter.unusedSimpArgs false
namespace Go.Rt
open Go Go.Cl Go.Rp

variable {l : List Ent} {A B c : List Int} {p : Int}

abbrev clsE (l : List Ent) : List (List Int) := l.map (·.2)
abbrev failsP (p : Int) (A d : List Int) : List Int := (A ++ (restP p A d).1).map fun x => -x
def groupsGo (l : List Ent) (p : Int) (A : List Int) : List Ent → Option (List Grp)
  | [] => some []
  | x :: xs =>
    if (restP p A x.2).2 = false then (groupsGo l p A xs).map fun gs => (x.1, []) :: gs
    else if (findP (failsP p A x.2) (clsE l)).2.2 ≠ 0 ∨ (findP (failsP p A x.2) (clsE l)).2.1 = false then none
    else (groupsGo l p A xs).map fun gs => (x.1, named l (findP (failsP p A x.2) (clsE l)).1) :: gs
def fuelE (l : List Ent) : Nat := fuelP (clsE l)
def searchP (l : List Ent) (c : List Int) : Stp × Int × Bool × Int :=
  if !rightE l then (⟨[], [], []⟩, 0, false, 90)
  else if (findP c (clsE l)).2.2 = 20 then (⟨[], [], []⟩, 0, false, 20)
  else if (findP c (clsE l)).2.1 = true then (⟨c, named l (findP c (clsE l)).1, []⟩, 1, true, 0)
  else match c with
    | [] => (⟨[], [], []⟩, 0, false, 0)
    | p :: r =>
      if (findP (p :: r) (clsE l)).2.2 ≠ 0 then (⟨[], [], []⟩, 0, false, 0)
      else match groupsGo l p (propGo l (fuelE l) (negs (p :: r)) []).1 (l.filter (isCand p)) with
        | none => (⟨[], [], []⟩, 0, false, 0)
        | some gs => (⟨p :: r, (propGo l (fuelE l) (negs (p :: r)) []).2, gs⟩, 2, true, 0)

theorem cls_right (h : rightE l = true) : ∀ d ∈ clsE l, rightC d = true := fun d hd => by
  obtain ⟨x, hx, rfl⟩ := List.mem_map.1 hd
  exact rightE_rt h x hx
theorem cls_getD (k : Nat) : (clsE l).getD k [] = (l.getD k (0, [])).2 := by
  simp only [clsE, List.getD_eq_getElem?_getD, List.getElem?_map]
  cases l[k]? <;> rfl

theorem find_named (hE : rightE l = true) (hl : l.length ≤ 65536) {c A : List Int} (hc : rightC c = true) (ha : alwaysC c = false) (hA : ∀ x, x ∈ A ↔ x ∈ negs c) (h : (findP c (clsE l)).2.1 = true) :
    (followR l A (named l (findP c (clsE l)).1)).2.1 = true ∧ (followR l A (named l (findP c (clsE l)).1)).2.2.2 = 0 := by
  have hr := cls_right hE
  have hl' : (clsE l).length ≤ 65536 := by simpa [clsE] using hl
  have law := found_law hc hr hl' h
  have hlt : ∀ i ∈ (findP c (clsE l)).1, i < l.length := fun i hi => by have := law.lt i hi; simpa [clsE] using this
  have em : ((findP c (clsE l)).1.map fun k => (clsE l).getD k []) = (findP c (clsE l)).1.map fun i => (l.getD i (0, [])).2 := by
    congr 1; funext k; exact cls_getD k
  have hk : ((findP c (clsE l)).1.map fun k => (clsE l).getD k []).length ≤ 65536 := by
    have := nodup_bound _ law.nodup law.lt
    simp only [List.length_map]; omega
  have hrr : ∀ d ∈ ((findP c (clsE l)).1.map fun k => (clsE l).getD k []), rightC d = true := fun d hd => by
    obtain ⟨k, hk, rfl⟩ := List.mem_map.1 hd
    rw [getD_lt (law.lt k hk)]; exact hr _ (List.getElem_mem _)
  have hconf := check_conf hc hrr hk ha law.chk
  have herr : (followP (negs c) ((findP c (clsE l)).1.map fun k => (clsE l).getD k [])).2.2.2 = 0 := by
    apply Classical.byContradiction
    intro hne
    have := (follow_errc (negs c) _ hne).1
    rw [this] at hconf; cases hconf
  obtain ⟨a, b, _⟩ := followR_named (uniq_of_right hE) (A := A) hlt
  rw [← em, followP_congr hA] at a b
  exact ⟨by rw [a, hconf], by rw [b, herr]⟩

theorem scan_ok {want : List Int} : ∀ {gs : List Grp} {last : Int}, (∀ g ∈ gs, g.1 ∈ want) → gs.Pairwise (fun x y => x.1 < y.1) → (∀ g ∈ gs, last < g.1) → scanG want last gs = (0, 0)
  | [], _, _, _, _ => rfl
  | g :: gs, last, h1, h2, h3 => by
    simp only [scanG]
    have a := h1 g (by simp)
    have b := h3 g (by simp)
    rw [if_neg (by rintro (h | h); exact h a; omega)]
    obtain ⟨c, d⟩ := List.pairwise_cons.1 h2
    exact scan_ok (fun x hx => h1 x (by simp [hx])) d c
theorem checkG_ok : ∀ {gs : List Grp}, (∀ g ∈ gs, ∀ d, lookE l g.1 = some d → (restP p A d).2 = true → (followR l (A ++ (restP p A d).1) g.2).2.1 = true ∧ (followR l (A ++ (restP p A d).1) g.2).2.2.2 = 0) → checkG l p A gs = (0, 0)
  | [], _ => rfl
  | g :: gs, h => by
    have ih := checkG_ok (gs := gs) fun x hx => h x (by simp [hx])
    simp only [checkG]
    split
    · exact ih
    · rename_i d hd
      split
      · exact ih
      · rename_i ho
        obtain ⟨a, b⟩ := h g (by simp) d hd (by simpa using ho)
        rw [if_neg (by simpa using b), if_neg (by rw [a]; simp)]
        exact ih
theorem groupsGo_fst : ∀ {xs : List Ent} {gs : List Grp}, groupsGo l p A xs = some gs → gs.map (·.1) = xs.map (·.1)
  | [], gs, h => by simp only [groupsGo, Option.some.injEq] at h; subst h; rfl
  | x :: xs, gs, h => by
    simp only [groupsGo] at h
    split at h
    · obtain ⟨g', hg, rfl⟩ := Option.map_eq_some_iff.1 h
      simp [groupsGo_fst hg]
    · split at h
      · cases h
      · obtain ⟨g', hg, rfl⟩ := Option.map_eq_some_iff.1 h
        simp [groupsGo_fst hg]
theorem groupsGo_each : ∀ {xs : List Ent} {gs : List Grp}, groupsGo l p A xs = some gs → ∀ g ∈ gs, ∃ x ∈ xs, g.1 = x.1 ∧ ((restP p A x.2).2 = false ∨ ((findP (failsP p A x.2) (clsE l)).2.1 = true ∧ g.2 = named l (findP (failsP p A x.2) (clsE l)).1))
  | [], gs, h, g, hg => by simp only [groupsGo, Option.some.injEq] at h; subst h; cases hg
  | x :: xs, gs, h, g, hg => by
    simp only [groupsGo] at h
    split at h
    · rename_i ho
      obtain ⟨g', hg', rfl⟩ := Option.map_eq_some_iff.1 h
      rcases List.mem_cons.1 hg with rfl | hg
      · exact ⟨x, by simp, rfl, .inl ho⟩
      · obtain ⟨y, hy, e⟩ := groupsGo_each hg' g hg
        exact ⟨y, by simp [hy], e⟩
    · split at h
      · cases h
      · rename_i hf
        obtain ⟨g', hg', rfl⟩ := Option.map_eq_some_iff.1 h
        rcases List.mem_cons.1 hg with rfl | hg
        · refine ⟨x, by simp, rfl, .inr ⟨?_, rfl⟩⟩
          simp only [not_or, Bool.not_eq_false] at hf
          exact hf.2
        · obtain ⟨y, hy, e⟩ := groupsGo_each hg' g hg
          exact ⟨y, by simp [hy], e⟩

theorem fails_free {d : List Int} (hA : okA A = true) (hnp : -p ∈ A) (hd : ∀ x ∈ d, rt x = true) (hpd : -p ∈ d) (hal : alwaysC d = false) (ho : (restP p A d).2 = true) : alwaysC (failsP p A d) = false := by
  have more : ∀ z, z ∈ (restP p A d).1 ↔ -z ∈ d ∧ -z ≠ -p := by
    intro z
    unfold restP at ho ⊢
    split at ho
    · cases ho
    · rename_i hany
      rw [if_neg hany]
      simp only [List.mem_map, List.mem_filter, decide_eq_true_eq]
      exact ⟨fun ⟨w, hw, e⟩ => by rw [← e, Int.neg_neg]; exact hw, fun h => ⟨-z, h, by omega⟩⟩
  have noA : ∀ y ∈ d, y ≠ -p → y ∉ A := by
    intro y hy hyp hyA
    unfold restP at ho
    split at ho
    · cases ho
    · rename_i hany
      exact hany (List.any_eq_true.2 ⟨y, hy, by simp [hyp, hyA]⟩)
  have nal : ∀ y ∈ d, -y ∉ d := fun y hy hn => by
    have : alwaysC d = true := always_iff.2 ⟨y, hy, hn⟩
    rw [hal] at this; cases this
  obtain ⟨_, nA⟩ := okA_iff.1 hA
  cases hf : alwaysC (failsP p A d)
  · rfl
  · exfalso
    obtain ⟨z, hz, hzn⟩ := always_iff.1 hf
    simp only [failsP, List.mem_map, List.mem_append] at hz hzn
    obtain ⟨u, hu, rfl⟩ := hz
    obtain ⟨w, hw, e⟩ := hzn
    have ew : w = -u := by omega
    subst ew
    rcases hu with hu | hu
    · rcases hw with hw | hw
      · exact nA u hu hw
      · have h1 := (more _).1 hw
        rw [Int.neg_neg] at h1
        exact noA u h1.1 h1.2 hu
    · have h1 := (more _).1 hu
      rcases hw with hw | hw
      · exact noA _ h1.1 h1.2 hw
      · have h2 := (more _).1 hw
        rw [Int.neg_neg] at h2
        exact nal u h2.1 h1.1

theorem propGo_ok (hr : ∀ x ∈ l, ∀ y ∈ x.2, rt y = true) : ∀ (n : Nat) {A ids : List Int}, okA A = true → okA (propGo l n A ids).1 = true ∧ ∀ x ∈ A, x ∈ (propGo l n A ids).1
  | 0, A, ids, h => ⟨h, fun x hx => hx⟩
  | n + 1, A, ids, h => by
    simp only [propGo]
    split
    · exact ⟨h, fun x hx => hx⟩
    · rename_i x hx
      have hm := List.mem_of_find?_eq_some hx
      have h3 := List.find?_some hx
      simp only [beq_iff_eq] at h3
      have hu := look_unit' h3
      obtain ⟨a, b⟩ := propGo_ok hr n (ids := ids ++ [x.1]) (okA_snoc h (hr x hm _ hu.2.1) hu.2.2.1)
      exact ⟨a, fun y hy => b y (List.mem_append_left _ hy)⟩

theorem rightE_sorted (h : rightE l = true) : l.Pairwise (fun x y => x.1 < y.1) ∧ ∀ x ∈ l, 0 < x.1 := by
  unfold rightE at h
  rw [Bool.and_eq_true] at h
  have key : ∀ {l : List Ent} {last : Int}, rightGo last l = true → (∀ x ∈ l, last < x.1) ∧ l.Pairwise (fun x y => x.1 < y.1) := by
    intro l
    induction l with
    | nil => intro _ _; simp
    | cons y l ih =>
      intro last h
      simp only [rightGo, Bool.and_eq_true, decide_eq_true_eq] at h
      obtain ⟨a, b⟩ := ih h.2
      refine ⟨fun x hx => ?_, List.pairwise_cons.2 ⟨a, b⟩⟩
      rcases List.mem_cons.1 hx with rfl | hx
      · exact h.1.1.1
      · have := a x hx; omega
  exact ⟨(key h.1).2, (key h.1).1⟩

theorem search_right (hl : l.length ≤ 65536) (h : (searchP l c).2.2.1 = true) : checkS l (searchP l c).1 = ((searchP l c).2.1, 0, 0) ∧ (searchP l c).1.lits = c ∧ (searchP l c).2.2.2 = 0 := by
  unfold searchP at h ⊢
  by_cases hE : rightE l = true
  rotate_left
  · rw [if_pos (by simpa using hE)] at h; cases h
  rw [if_neg (by rw [hE]; simp)] at h ⊢
  have hr := cls_right hE
  have hl' : (clsE l).length ≤ 65536 := by simpa [clsE] using hl
  by_cases h20 : (findP c (clsE l)).2.2 = 20
  · rw [if_pos h20] at h; cases h
  rw [if_neg h20] at h ⊢
  have hc : rightC c = true := by
    cases hc : rightC c
    · exfalso; apply h20; unfold findP; rw [hc]; simp
    · rfl
  by_cases hf : (findP c (clsE l)).2.1 = true
  · rw [if_pos hf] at h ⊢
    refine ⟨?_, rfl, rfl⟩
    unfold checkS
    rw [if_neg (by rw [hE]; simp), if_neg (by show ¬ ((!rightC c) = true); rw [hc]; simp)]
    cases ha : alwaysC c
    · obtain ⟨a, b⟩ := find_named hE hl hc ha (fun x => Iff.rfl) hf
      simp only [ha, Bool.false_eq_true, if_false]
      rw [if_neg (by simpa using b), if_pos a]
    · simp only [ha, if_true]
  rw [if_neg hf] at h ⊢
  obtain ⟨ha, _⟩ := find_no hc hr hl' (by simpa using hf)
  cases c with
  | nil => cases h
  | cons p r =>
    simp only at h ⊢
    by_cases h0 : (findP (p :: r) (clsE l)).2.2 ≠ 0
    · rw [if_pos h0] at h; cases h
    rw [if_neg h0] at h ⊢
    cases hg : groupsGo l p (propGo l (fuelE l) (negs (p :: r)) []).1 (l.filter (isCand p)) with
    | none => rw [hg] at h; cases h
    | some gs =>
      refine ⟨?_, rfl, rfl⟩
      show checkS l ⟨p :: r, (propGo l (fuelE l) (negs (p :: r)) []).2, gs⟩ = (2, 0, 0)
      have hu := uniq_of_right hE
      have hrt : ∀ x ∈ l, ∀ y ∈ x.2, rt y = true := fun x hx => rightC_rt (rightE_rt hE x hx)
      have hpf := prop_follow hu (A0 := negs (p :: r)) (fuelE l) (A := negs (p :: r)) (ids := []) rfl
      obtain ⟨hok, hsub⟩ := propGo_ok hrt (fuelE l) (ids := []) (okA_negs hc ha)
      have hnp : -p ∈ (propGo l (fuelE l) (negs (p :: r)) []).1 := hsub _ ((mem_negs hc).2 (by rw [Int.neg_neg]; simp))
      generalize propGo l (fuelE l) (negs (p :: r)) [] = PA at *
      have hfst := groupsGo_fst hg
      have hids : gs.map (·.1) = candIDs l p := hfst
      obtain ⟨hsort, hpos⟩ := rightE_sorted hE
      have hgp : groupsP l p gs = (0, 0) := by
        unfold groupsP
        have hn : (candIDs l p).find? (fun id => !(gs.map (·.1)).contains id) = none := by
          rw [List.find?_eq_none]
          intro id hid
          rw [hids]; simp [hid]
        rw [hn]
        simp only
        refine scan_ok (fun g hgm => by rw [← hids]; exact List.mem_map.2 ⟨g, hgm, rfl⟩) ?_ fun g hgm => ?_
        · have h1 : ((l.filter (isCand p)).map (·.1)).Pairwise (· < ·) := by
            rw [List.pairwise_map]; exact hsort.filter _
          rw [← hfst, List.pairwise_map] at h1
          exact h1
        · have : g.1 ∈ (l.filter (isCand p)).map (·.1) := by rw [← hfst]; exact List.mem_map.2 ⟨g, hgm, rfl⟩
          obtain ⟨x, hx, e⟩ := List.mem_map.1 this
          rw [← e]; exact hpos x (List.mem_filter.1 hx).1
      have hck : checkG l p PA.1 gs = (0, 0) := by
        refine checkG_ok fun g hgm d hd ho => ?_
        obtain ⟨x, hx, e, hcase⟩ := groupsGo_each hg g hgm
        obtain ⟨hxl, hxc⟩ := List.mem_filter.1 hx
        have ed : d = x.2 := by
          rw [e, uniq_mem hu x hxl] at hd
          exact (Option.some.inj hd).symm
        subst ed
        rcases hcase with hcl | ⟨hfound, eh⟩
        · rw [hcl] at ho; cases ho
        · unfold isCand at hxc
          simp only [Bool.and_eq_true, List.contains_iff_mem, Bool.not_eq_true'] at hxc
          have hfr := fails_free hok hnp (hrt x hxl) hxc.1 hxc.2 ho
          have hfc : rightC (failsP p PA.1 x.2) = true := by
            cases hfc : rightC (failsP p PA.1 x.2)
            · exfalso
              have : findP (failsP p PA.1 x.2) (clsE l) = ([], false, 20) := by unfold findP; rw [hfc]; simp
              rw [this] at hfound; cases hfound
            · rfl
          rw [eh]
          have hset : ∀ y, y ∈ PA.1 ++ (restP p PA.1 x.2).1 ↔ y ∈ negs (failsP p PA.1 x.2) := by
            intro y
            rw [mem_negs hfc]
            simp only [failsP, List.mem_map]
            constructor
            · exact fun hy => ⟨y, hy, rfl⟩
            · rintro ⟨w, hw, e⟩
              have e2 : w = y := by omega
              rw [← e2]; exact hw
          exact find_named hE hl hfc hfr hset hfound
      unfold checkS
      rw [if_neg (by rw [hE]; simp), if_neg (by show ¬ ((!rightC (p :: r)) = true); rw [hc]; simp), if_neg (by show ¬ (alwaysC (p :: r) = true); rw [ha]; simp)]
      simp only
      rw [hpf]
      simp only
      rw [if_neg (by simp), if_neg (by simp), hgp, hck]
      simp

end Go.Rt

set_option linter.unusedVariables false
set_option linter.unusedSimpArgs false
namespace Go.Sx
open Go

abbrev tPr : Ty := .cons (.int .i64) (.cons .sl .nil)
theorem widePr : Wide 2 tPr.vals := fun _ => rfl

def rsp (I : List Int → Sl → Asn) (xs : List (Int × List Int)) (s : Sl) : Asn where
  P := fun S h => ∃ (ps : List tPr.T) (S1 S2 : List Nat), S = S1 ++ S2 ∧ (rsn 2 tPr.vals ps s).P S1 h ∧ ps.map (fun p => p.1) = xs.map (fun x => x.1) ∧ Inner I (xs.map fun x => x.2) (ps.map fun p => p.2.1) S2 h
  loc := fun {S h h'} ⟨ps, S1, S2, e, hp, hm, hi⟩ hz hk => by
    subst e
    exact ⟨ps, S1, S2, rfl, (rsn 2 tPr.vals ps s).loc hp hz fun b hb => hk b (List.mem_append_left _ hb), hm, hi.loc hz fun b hb => hk b (List.mem_append_right _ hb)⟩
  cel := fun {S h} ⟨ps, S1, S2, e, hp, hm, hi⟩ b hb => by
    subst e
    rcases List.mem_append.1 hb with hb | hb
    · exact (rsn 2 tPr.vals ps s).cel hp b hb
    · exact hi.cel b hb

section
variable {I : List Int → Sl → Asn} {xs : List (Int × List Int)} {s : Sl} {h h' : Heap} {fr : Fr} {G As : List Asn}

theorem rsp_open (hA : At h (rsp I xs s)) : ∃ ps : List tPr.T, ps.length = xs.length ∧ At h (rsn 2 tPr.vals ps s) ∧ ∀ i (h1 : i < xs.length) (h2 : i < ps.length), ps[i].1 = xs[i].1 ∧ At h (I xs[i].2 ps[i].2.1) := by
  obtain ⟨S, ps, S1, S2, e, hp, hm, hi⟩ := hA
  have hl : ps.length = xs.length := by simpa using congrArg List.length hm
  refine ⟨ps, hl, ⟨S1, hp⟩, fun i h1 h2 => ⟨?_, ?_⟩⟩
  · have := congrArg (fun l => l[i]?) hm
    simpa [h1, h2] using this
  · have := hi.get i (by simpa using h1) (by simpa using h2)
    simpa using this
theorem rsp_new {n : Nat} {ps : List tPr.T} (hl : ps.length = xs.length) (ho : New n h (rsn 2 tPr.vals ps s)) (hi : ∀ i (h1 : i < xs.length) (h2 : i < ps.length), ps[i].1 = xs[i].1 ∧ New n h (I xs[i].2 ps[i].2.1)) : New n h (rsp I xs s) := by
  obtain ⟨S1, hp, g1⟩ := ho
  obtain ⟨S2, hs, g2⟩ := Inner.make (I := I) (n := n) (xs := xs.map fun x => x.2) (ps := ps.map fun p => p.2.1) (h := h) (by simpa using hl) fun i h1 h2 => by
    simpa using (hi i (by simpa using h1) (by simpa using h2)).2
  refine ⟨S1 ++ S2, ⟨ps, S1, S2, rfl, hp, ?_, hs⟩, fun b hb => (List.mem_append.1 hb).elim (g1 b) (g2 b)⟩
  refine List.ext_getElem (by simpa using hl) fun i h1 h2 => ?_
  simpa using (hi i (by simpa using h2) (by simpa using h1)).1
theorem rsp_at {ps : List tPr.T} (hl : ps.length = xs.length) (ho : At h (rsn 2 tPr.vals ps s)) (hi : ∀ i (h1 : i < xs.length) (h2 : i < ps.length), ps[i].1 = xs[i].1 ∧ At h (I xs[i].2 ps[i].2.1)) : At h (rsp I xs s) :=
  (rsp_new hl ho.new0 fun i h1 h2 => ⟨(hi i h1 h2).1, (hi i h1 h2).2.new0⟩).at
theorem rsp_len (hA : At h (rsp I xs s)) : s.len = xs.length := by
  obtain ⟨ps, hl, ho, _⟩ := rsp_open hA
  rw [rsn_len ho, hl]
theorem rsp_nil (n : Nat) (a : Option Addr) (h : Heap) : New n h (rsp I [] ⟨a, 0, 0⟩) :=
  rsp_new (ps := []) rfl ⟨[], ⟨rfl, Nat.le_refl _, .inl ⟨rfl, rfl⟩⟩, by simp⟩ fun i h1 _ => by simp at h1
theorem rdPr (hA : At h (rsp I xs s)) {i : Nat} (hi : i < xs.length) {K : tPr.T → HP} (hK : ∀ p : Sl, At h (I xs[i].2 p) → K (xs[i].1, p, ()) h) : sx s.a s.len (i : Int) 2 (fun p => ldA tPr p K) h := by
  obtain ⟨ps, hl, ho, hx⟩ := rsp_open hA
  have hi2 : i < ps.length := by omega
  obtain ⟨e, hI⟩ := hx i hi hi2
  refine rdN (τ := tPr) ho hi2 ?_
  have e2 : ps[i] = (xs[i].1, ps[i].2.1, ()) := by rw [← e]
  rw [e2]; exact hK _ hI
theorem rdPri (hA : At h (rsp I xs s)) {i : Nat} (hi : i < xs.length) {K : Int → HP} (hK : K xs[i].1 h) : sx s.a s.len (i : Int) 2 (fun p => ldT (.int .i64) p K) h := by
  obtain ⟨ps, hl, ho, hx⟩ := rsp_open hA
  have hi2 : i < ps.length := by omega
  obtain ⟨e, hI⟩ := hx i hi hi2
  exact rdN0 (σ := .int .i64) ho hi2 (v := xs[i].1) (by rw [← e]; rfl) hK
theorem rdPrs (hA : At h (rsp I xs s)) {i : Nat} (hi : i < xs.length) {K : Sl → HP} (hK : ∀ p : Sl, At h (I xs[i].2 p) → K p h) : sx s.a s.len (i : Int) 2 (fun p => ldT .sl (p.add 1) K) h := by
  obtain ⟨ps, hl, ho, hx⟩ := rsp_open hA
  have hi2 : i < ps.length := by omega
  obtain ⟨e, hI⟩ := hx i hi hi2
  exact rdNf (σ := .sl) ho hi2 1 (v := ps[i].2.1) rfl (hK _ hI)

end
end Go.Sx

set_option linter.unusedVariables false
set_option linter.unusedSimpArgs false
namespace Go.Sx
open Go

section
variable {τ : Ty} {xs : List τ.T} {s s2 : Sl} {h : Heap} {fr : Fr} {G As : List Asn} {t : TypeId} {b : Nat}

theorem Hs.apdF {v : τ.T} {by_ : Nat} {z : Array Value} {K : Sl → HP} (st : Hs fr G As h) (kx : Nat) (hA : At h (rsl τ.enc xs s)) (hfull : s.cap = s.len) (hkx : As[kx]? = some (cl b t [τ.enc v]))
    (hlen : (xs.length + 1) * by_ ≤ 140737488355328) (hby : 0 < by_) (hz : z.size = 1)
    (hK : ∀ s' h', Hs fr G (As ++ [osl t τ.enc (xs ++ [v]) s']) h' → K s' h') : Sx.apd t 1 by_ z s ⟨some ⟨b, 0, none⟩, 1, 1⟩ K h := by
  have hx := st.blk kx hkx
  have hl := rsl_len hA
  refine ⟨[τ.enc v], ⟨rfl, CellsAt_blk' _ hx 0 (by intro j hj; simp at hj; subst hj; rfl)⟩, fun hle => ?_, fun hgt => ?_⟩
  · exfalso; simp only [hfull] at hle; omega
  · simp only [hl] at hgt ⊢
    refine ⟨hlen, hby, ?_⟩
    have hf := rsl_first hA
    rw [hl] at hf
    refine ⟨_, hf, fun nc h1 h2 => ?_⟩
    refine hK _ _ (st.new ((Ext.refl' [] h).push _) ⟨[h.size], .inl ⟨h.size, (Builtin.zeroCells z (nc - (xs.length + 1))).toList, rfl, ?_, ?_⟩, by simp⟩)
    · have h1' : xs.length + 1 ≤ nc := by simpa [hl] using h1
      simp [Builtin.zeroCells, hz]
      omega
    · have := Blk.new h t (((xs.map τ.enc).toArray ++ #[τ.enc v]) ++ Builtin.zeroCells z (nc - (xs.length + 1)))
      simpa using this

theorem Hs.pr (st : Hs fr G As h) {x : Int} {s' : Sl} {K : Nat → HP} (hK : ∀ b h', Ext [] h h' → Hs fr G (As ++ [cl b t [.int .i64 x, .slice s'.a s'.len s'.cap]]) h' → K b h') :
    Sx.nw #[.int .i64 0, .slice none 0 0] t (fun b => Sx.st1 ⟨b, 0, none⟩ (.int .i64 x) <| Sx.st1 ((⟨b, 0, none⟩ : Addr).add 1) (.slice s'.a s'.len s'.cap) <| K b) h := by
  rw [nw_eq]
  have x0 : Ext [] h (h.push (.cells #[.int .i64 0, .slice none 0 0] t)) := (Ext.refl' [] h).push _
  have st : Hs fr G (As ++ [cl h.size t [.int .i64 0, .slice none 0 0]]) (h.push (.cells #[.int .i64 0, .slice none 0 0] t)) := st.new x0 ⟨[h.size], ⟨rfl, Blk.new h t #[.int .i64 0, .slice none 0 0]⟩, by simp⟩
  simp only [addr_add, Nat.zero_add]
  rw [st_ok (st.blk As.length (lastA _ _)) (by simp)]
  have st := st.set1 As.length 0 (lastA _ _) (.int .i64 x)
  have x1 : Ext [] h (setC (h.push (.cells #[.int .i64 0, .slice none 0 0] t)) ⟨h.size, 0, none⟩ (.int .i64 x)) := x0.set _ _ (.inr (Nat.le_refl _))
  rw [List.set_append_right _ _ (Nat.le_refl _), Nat.sub_self, List.set_cons_zero] at st
  rw [st_ok (st.blk As.length (lastA _ _)) (by simp)]
  have st := st.set1 As.length 1 (lastA _ _) (.slice s'.a s'.len s'.cap)
  rw [List.set_append_right _ _ (Nat.le_refl _), Nat.sub_self, List.set_cons_zero] at st
  exact hK _ _ (x1.set _ _ (.inr (Nat.le_refl _))) st
end
end Go.Sx

set_option linter.unusedVariables false
namespace Go.Sx
open Go
variable {P : Program} {τ : Ty} {xs : List τ.T} {s : Sl} {h : Heap}

def W_bsearchN (P : Program) (τ σ2 : Ty) (n : Nat) (s : Sl) (v : σ2.T) (fv : Value) (K : (Int × Bool × Unit) → HP) : HP :=
  lfp (σ := Int × Int × Unit) (fun X0 s1 => brB (decide (s1.2.1 < s1.1))
    (ge0 (1 : Int) <| sx s.a s.len (IntKind.wrap .i64 (Int.fdiv (IntKind.wrap .u64 (IntKind.wrap .i64 (s1.2.1 + s1.1))) (2 ^ (min ((1 : Int)).toNat 64)))) n fun p2 => ldA τ p2 fun x3 =>
      callF P fv #[.agg (τ.vals x3).toArray, σ2.enc v] (.int .i64) fun r4 =>
      jn (σ := Int × Int × Unit) (fun s6 => X0 (s6.1, s6.2.1, ())) (fun J5 => brB (decide (r4 < (0 : Int)))
        (J5 (s1.1, (IntKind.wrap .i64 ((IntKind.wrap .i64 (Int.fdiv (IntKind.wrap .u64 (IntKind.wrap .i64 (s1.2.1 + s1.1))) (2 ^ (min ((1 : Int)).toNat 64)))) + (1 : Int))), ()))
        (J5 ((IntKind.wrap .i64 (Int.fdiv (IntKind.wrap .u64 (IntKind.wrap .i64 (s1.2.1 + s1.1))) (2 ^ (min ((1 : Int)).toNat 64)))), s1.2.1, ()))))
    (brB (decide (s1.2.1 < (s.len : Int))) (sx s.a s.len s1.2.1 n fun p7 => ldA τ p7 fun x8 => callF P fv #[.agg (τ.vals x8).toArray, σ2.enc v] (.int .i64) fun r9 => K (s1.2.1, (r9 == (0 : Int)), ())) (K (s1.2.1, false, ()))))
    ((s.len : Int), (0 : Int), ())

theorem w_bsearchN {σ2 : Ty} {fv : Value} {v : σ2.T} {c : τ.T → Int} {n : Nat} (hA : At h (rsn n τ.vals xs s)) (hl : xs.length ≤ 1099511627776)
    (hc : ∀ x ∈ xs, ∀ h', Ext [] h h' → callF P fv #[.agg (τ.vals x).toArray, σ2.enc v] (.int .i64) (fun r h2 => r = c x ∧ Ext [] h' h2) h')
    (hm : ∀ i j (hj : j < xs.length) (hij : i < j), c xs[j] < 0 → c (xs[i]'(by omega)) < 0) {K : (Int × Bool × Unit) → HP}
    (hK : ∀ (i : Nat) (b : Bool) h', Ext [] h h' → i ≤ xs.length → (∀ j (hj : j < xs.length), j < i → c xs[j] < 0) → (∀ j (hj : j < xs.length), i ≤ j → ¬ c xs[j] < 0) → (b = true ↔ ∃ hi : i < xs.length, c xs[i] = 0) → K ((i : Int), b, ()) h') :
    W_bsearchN P τ σ2 n s v fv K h := by
  have l1 := rsn_len hA
  unfold W_bsearchN
  rw [l1]
  refine lfp_invh (I := fun m σ h' => ∃ i j : Nat, σ = ((j : Int), (i : Int), ()) ∧ i ≤ j ∧ j ≤ xs.length ∧ (∀ k (hk : k < xs.length), k < i → c xs[k] < 0) ∧ (∀ k (hk : k < xs.length), j ≤ k → ¬ c xs[k] < 0) ∧ Ext [] h h' ∧ m = j - i)
    ⟨_, 0, xs.length, rfl, by omega, by omega, fun k _ hk => by omega, fun k hk hk' => by omega, Ext.refl' _ _, rfl⟩ ?_
  rintro m σ h' X ⟨i, j, rfl, hij, hj, hlo, hhi, x, em⟩ hX
  by_cases hlt : i < j
  · have hmid : (i + j) / 2 < xs.length := by omega
    simp only [dlt_t hlt, brB_true, ge0_ok (show (0 : Int) ≤ 1 by decide), mid_eq (show i ≤ 1099511627776 by omega) (show j ≤ 1099511627776 by omega), inc_i (show (i + j) / 2 < 4611686018427387904 by omega)]
    rw [← l1]
    refine rdN (hA.ext x) hmid ?_
    refine callF_of (hc _ (List.getElem_mem hmid) h' x) ?_
    rintro r h2 ⟨rfl, x2⟩
    refine jn_in fun J hJ => ?_
    by_cases hneg : c xs[(i + j) / 2] < 0
    · simp only [hneg, decide_true, brB_true]
      refine hJ _ _ (hX _ _ _ ⟨(i + j) / 2 + 1, j, rfl, by omega, hj, fun k hk hki => ?_, hhi, x.nil_trans x2, rfl⟩ (by omega))
      rcases Nat.lt_or_ge k ((i + j) / 2) with hk2 | hk2
      · exact hm k _ hmid hk2 hneg
      · have : k = (i + j) / 2 := by omega
        subst this; exact hneg
    · simp only [hneg, decide_false, brB_false]
      refine hJ _ _ (hX _ _ _ ⟨i, (i + j) / 2, rfl, by omega, by omega, hlo, fun k hk hki hc' => ?_, x.nil_trans x2, rfl⟩ (by omega))
      rcases Nat.lt_or_ge ((i + j) / 2) k with hk2 | hk2
      · exact hneg (hm _ k hk hk2 hc')
      · have : k = (i + j) / 2 := by omega
        subst this; exact hneg hc'
  · have eij : i = j := by omega
    subst eij
    simp only [dlt_f hlt, brB_false]
    by_cases hin : i < xs.length
    · simp only [dlt_t hin, brB_true]
      rw [← l1]
      refine rdN (hA.ext x) hin ?_
      refine callF_of (hc _ (List.getElem_mem hin) h' x) ?_
      rintro r h2 ⟨rfl, x2⟩
      exact hK i _ h2 (x.nil_trans x2) hj hlo hhi ⟨fun e => ⟨hin, by simpa using e⟩, fun ⟨_, e⟩ => by simp [e]⟩
    · simp only [dlt_f hin, brB_false]
      exact hK i false h' x hj hlo hhi ⟨fun e => (by cases e), fun ⟨hi, _⟩ => absurd hi hin⟩

end Go.Sx
