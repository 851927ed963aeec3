/-
  What Search answers, and that the step it finds is right. No program here.
-/
import Derived.Test.YtjkgncibelojnaaRtQ
set_option linter.unusedVariables false
set_option linter.unusedSimpArgs false
namespace Go.Rt
open Go Go.Cl Go.Rp

variable {l : List Ent} {A B c : List Int} {p : Int}

abbrev clsE (l : List Ent) : List (List Int) := l.map (·.2)
abbrev failsP (p : Int) (A d : List Int) : List Int := (A ++ (restP p A d).1).map fun x => -x
def groupsGo (l : List Ent) (p : Int) (A : List Int) : List Ent → Option (List Grp)
  | [] => some []
  | x :: xs =>
    if (restP p A x.2).2 = false then (groupsGo l p A xs).map fun gs => (x.1, []) :: gs
    else if (findP (failsP p A x.2) (clsE l)).2.2 ≠ 0 ∨ (findP (failsP p A x.2) (clsE l)).2.1 = false then none
    else (groupsGo l p A xs).map fun gs => (x.1, named l (findP (failsP p A x.2) (clsE l)).1) :: gs
def fuelE (l : List Ent) : Nat := fuelP (clsE l)
def searchP (l : List Ent) (c : List Int) : Stp × Int × Bool × Int :=
  if !rightE l then (⟨[], [], []⟩, 0, false, 90)
  else if (findP c (clsE l)).2.2 = 20 then (⟨[], [], []⟩, 0, false, 20)
  else if (findP c (clsE l)).2.1 = true then (⟨c, named l (findP c (clsE l)).1, []⟩, 1, true, 0)
  else match c with
    | [] => (⟨[], [], []⟩, 0, false, 0)
    | p :: r =>
      if (findP (p :: r) (clsE l)).2.2 ≠ 0 then (⟨[], [], []⟩, 0, false, 0)
      else match groupsGo l p (propGo l (fuelE l) (negs (p :: r)) []).1 (l.filter (isCand p)) with
        | none => (⟨[], [], []⟩, 0, false, 0)
        | some gs => (⟨p :: r, (propGo l (fuelE l) (negs (p :: r)) []).2, gs⟩, 2, true, 0)

theorem cls_right (h : rightE l = true) : ∀ d ∈ clsE l, rightC d = true := fun d hd => by
  obtain ⟨x, hx, rfl⟩ := List.mem_map.1 hd
  exact rightE_rt h x hx
theorem cls_getD (k : Nat) : (clsE l).getD k [] = (l.getD k (0, [])).2 := by
  simp only [clsE, List.getD_eq_getElem?_getD, List.getElem?_map]
  cases l[k]? <;> rfl

theorem find_named (hE : rightE l = true) (hl : l.length ≤ 65536) {c A : List Int} (hc : rightC c = true) (ha : alwaysC c = false) (hA : ∀ x, x ∈ A ↔ x ∈ negs c) (h : (findP c (clsE l)).2.1 = true) :
    (followR l A (named l (findP c (clsE l)).1)).2.1 = true ∧ (followR l A (named l (findP c (clsE l)).1)).2.2.2 = 0 := by
  have hr := cls_right hE
  have hl' : (clsE l).length ≤ 65536 := by simpa [clsE] using hl
  have law := found_law hc hr hl' h
  have hlt : ∀ i ∈ (findP c (clsE l)).1, i < l.length := fun i hi => by have := law.lt i hi; simpa [clsE] using this
  have em : ((findP c (clsE l)).1.map fun k => (clsE l).getD k []) = (findP c (clsE l)).1.map fun i => (l.getD i (0, [])).2 := by
    congr 1; funext k; exact cls_getD k
  have hk : ((findP c (clsE l)).1.map fun k => (clsE l).getD k []).length ≤ 65536 := by
    have := nodup_bound _ law.nodup law.lt
    simp only [List.length_map]; omega
  have hrr : ∀ d ∈ ((findP c (clsE l)).1.map fun k => (clsE l).getD k []), rightC d = true := fun d hd => by
    obtain ⟨k, hk, rfl⟩ := List.mem_map.1 hd
    rw [getD_lt (law.lt k hk)]; exact hr _ (List.getElem_mem _)
  have hconf := check_conf hc hrr hk ha law.chk
  have herr : (followP (negs c) ((findP c (clsE l)).1.map fun k => (clsE l).getD k [])).2.2.2 = 0 := by
    apply Classical.byContradiction
    intro hne
    have := (follow_errc (negs c) _ hne).1
    rw [this] at hconf; cases hconf
  obtain ⟨a, b, _⟩ := followR_named (uniq_of_right hE) (A := A) hlt
  rw [← em, followP_congr hA] at a b
  exact ⟨by rw [a, hconf], by rw [b, herr]⟩

theorem scan_ok {want : List Int} : ∀ {gs : List Grp} {last : Int}, (∀ g ∈ gs, g.1 ∈ want) → gs.Pairwise (fun x y => x.1 < y.1) → (∀ g ∈ gs, last < g.1) → scanG want last gs = (0, 0)
  | [], _, _, _, _ => rfl
  | g :: gs, last, h1, h2, h3 => by
    simp only [scanG]
    have a := h1 g (by simp)
    have b := h3 g (by simp)
    rw [if_neg (by rintro (h | h); exact h a; omega)]
    obtain ⟨c, d⟩ := List.pairwise_cons.1 h2
    exact scan_ok (fun x hx => h1 x (by simp [hx])) d c
theorem checkG_ok : ∀ {gs : List Grp}, (∀ g ∈ gs, ∀ d, lookE l g.1 = some d → (restP p A d).2 = true → (followR l (A ++ (restP p A d).1) g.2).2.1 = true ∧ (followR l (A ++ (restP p A d).1) g.2).2.2.2 = 0) → checkG l p A gs = (0, 0)
  | [], _ => rfl
  | g :: gs, h => by
    have ih := checkG_ok (gs := gs) fun x hx => h x (by simp [hx])
    simp only [checkG]
    split
    · exact ih
    · rename_i d hd
      split
      · exact ih
      · rename_i ho
        obtain ⟨a, b⟩ := h g (by simp) d hd (by simpa using ho)
        rw [if_neg (by simpa using b), if_neg (by rw [a]; simp)]
        exact ih
theorem groupsGo_fst : ∀ {xs : List Ent} {gs : List Grp}, groupsGo l p A xs = some gs → gs.map (·.1) = xs.map (·.1)
  | [], gs, h => by simp only [groupsGo, Option.some.injEq] at h; subst h; rfl
  | x :: xs, gs, h => by
    simp only [groupsGo] at h
    split at h
    · obtain ⟨g', hg, rfl⟩ := Option.map_eq_some_iff.1 h
      simp [groupsGo_fst hg]
    · split at h
      · cases h
      · obtain ⟨g', hg, rfl⟩ := Option.map_eq_some_iff.1 h
        simp [groupsGo_fst hg]
theorem groupsGo_each : ∀ {xs : List Ent} {gs : List Grp}, groupsGo l p A xs = some gs → ∀ g ∈ gs, ∃ x ∈ xs, g.1 = x.1 ∧ ((restP p A x.2).2 = false ∨ ((findP (failsP p A x.2) (clsE l)).2.1 = true ∧ g.2 = named l (findP (failsP p A x.2) (clsE l)).1))
  | [], gs, h, g, hg => by simp only [groupsGo, Option.some.injEq] at h; subst h; cases hg
  | x :: xs, gs, h, g, hg => by
    simp only [groupsGo] at h
    split at h
    · rename_i ho
      obtain ⟨g', hg', rfl⟩ := Option.map_eq_some_iff.1 h
      rcases List.mem_cons.1 hg with rfl | hg
      · exact ⟨x, by simp, rfl, .inl ho⟩
      · obtain ⟨y, hy, e⟩ := groupsGo_each hg' g hg
        exact ⟨y, by simp [hy], e⟩
    · split at h
      · cases h
      · rename_i hf
        obtain ⟨g', hg', rfl⟩ := Option.map_eq_some_iff.1 h
        rcases List.mem_cons.1 hg with rfl | hg
        · refine ⟨x, by simp, rfl, .inr ⟨?_, rfl⟩⟩
          simp only [not_or, Bool.not_eq_false] at hf
          exact hf.2
        · obtain ⟨y, hy, e⟩ := groupsGo_each hg' g hg
          exact ⟨y, by simp [hy], e⟩

theorem fails_free {d : List Int} (hA : okA A = true) (hnp : -p ∈ A) (hd : ∀ x ∈ d, rt x = true) (hpd : -p ∈ d) (hal : alwaysC d = false) (ho : (restP p A d).2 = true) : alwaysC (failsP p A d) = false := by
  have more : ∀ z, z ∈ (restP p A d).1 ↔ -z ∈ d ∧ -z ≠ -p := by
    intro z
    unfold restP at ho ⊢
    split at ho
    · cases ho
    · rename_i hany
      rw [if_neg hany]
      simp only [List.mem_map, List.mem_filter, decide_eq_true_eq]
      exact ⟨fun ⟨w, hw, e⟩ => by rw [← e, Int.neg_neg]; exact hw, fun h => ⟨-z, h, by omega⟩⟩
  have noA : ∀ y ∈ d, y ≠ -p → y ∉ A := by
    intro y hy hyp hyA
    unfold restP at ho
    split at ho
    · cases ho
    · rename_i hany
      exact hany (List.any_eq_true.2 ⟨y, hy, by simp [hyp, hyA]⟩)
  have nal : ∀ y ∈ d, -y ∉ d := fun y hy hn => by
    have : alwaysC d = true := always_iff.2 ⟨y, hy, hn⟩
    rw [hal] at this; cases this
  obtain ⟨_, nA⟩ := okA_iff.1 hA
  cases hf : alwaysC (failsP p A d)
  · rfl
  · exfalso
    obtain ⟨z, hz, hzn⟩ := always_iff.1 hf
    simp only [failsP, List.mem_map, List.mem_append] at hz hzn
    obtain ⟨u, hu, rfl⟩ := hz
    obtain ⟨w, hw, e⟩ := hzn
    have ew : w = -u := by omega
    subst ew
    rcases hu with hu | hu
    · rcases hw with hw | hw
      · exact nA u hu hw
      · have h1 := (more _).1 hw
        rw [Int.neg_neg] at h1
        exact noA u h1.1 h1.2 hu
    · have h1 := (more _).1 hu
      rcases hw with hw | hw
      · exact noA _ h1.1 h1.2 hw
      · have h2 := (more _).1 hw
        rw [Int.neg_neg] at h2
        exact nal u h2.1 h1.1

theorem propGo_ok (hr : ∀ x ∈ l, ∀ y ∈ x.2, rt y = true) : ∀ (n : Nat) {A ids : List Int}, okA A = true → okA (propGo l n A ids).1 = true ∧ ∀ x ∈ A, x ∈ (propGo l n A ids).1
  | 0, A, ids, h => ⟨h, fun x hx => hx⟩
  | n + 1, A, ids, h => by
    simp only [propGo]
    split
    · exact ⟨h, fun x hx => hx⟩
    · rename_i x hx
      have hm := List.mem_of_find?_eq_some hx
      have h3 := List.find?_some hx
      simp only [beq_iff_eq] at h3
      have hu := look_unit' h3
      obtain ⟨a, b⟩ := propGo_ok hr n (ids := ids ++ [x.1]) (okA_snoc h (hr x hm _ hu.2.1) hu.2.2.1)
      exact ⟨a, fun y hy => b y (List.mem_append_left _ hy)⟩

theorem rightE_sorted (h : rightE l = true) : l.Pairwise (fun x y => x.1 < y.1) ∧ ∀ x ∈ l, 0 < x.1 := by
  unfold rightE at h
  rw [Bool.and_eq_true] at h
  have key : ∀ {l : List Ent} {last : Int}, rightGo last l = true → (∀ x ∈ l, last < x.1) ∧ l.Pairwise (fun x y => x.1 < y.1) := by
    intro l
    induction l with
    | nil => intro _ _; simp
    | cons y l ih =>
      intro last h
      simp only [rightGo, Bool.and_eq_true, decide_eq_true_eq] at h
      obtain ⟨a, b⟩ := ih h.2
      refine ⟨fun x hx => ?_, List.pairwise_cons.2 ⟨a, b⟩⟩
      rcases List.mem_cons.1 hx with rfl | hx
      · exact h.1.1.1
      · have := a x hx; omega
  exact ⟨(key h.1).2, (key h.1).1⟩

theorem search_right (hl : l.length ≤ 65536) (h : (searchP l c).2.2.1 = true) : checkS l (searchP l c).1 = ((searchP l c).2.1, 0, 0) ∧ (searchP l c).1.lits = c ∧ (searchP l c).2.2.2 = 0 := by
  unfold searchP at h ⊢
  by_cases hE : rightE l = true
  rotate_left
  · rw [if_pos (by simpa using hE)] at h; cases h
  rw [if_neg (by rw [hE]; simp)] at h ⊢
  have hr := cls_right hE
  have hl' : (clsE l).length ≤ 65536 := by simpa [clsE] using hl
  by_cases h20 : (findP c (clsE l)).2.2 = 20
  · rw [if_pos h20] at h; cases h
  rw [if_neg h20] at h ⊢
  have hc : rightC c = true := by
    cases hc : rightC c
    · exfalso; apply h20; unfold findP; rw [hc]; simp
    · rfl
  by_cases hf : (findP c (clsE l)).2.1 = true
  · rw [if_pos hf] at h ⊢
    refine ⟨?_, rfl, rfl⟩
    unfold checkS
    rw [if_neg (by rw [hE]; simp), if_neg (by show ¬ ((!rightC c) = true); rw [hc]; simp)]
    cases ha : alwaysC c
    · obtain ⟨a, b⟩ := find_named hE hl hc ha (fun x => Iff.rfl) hf
      simp only [ha, Bool.false_eq_true, if_false]
      rw [if_neg (by simpa using b), if_pos a]
    · simp only [ha, if_true]
  rw [if_neg hf] at h ⊢
  obtain ⟨ha, _⟩ := find_no hc hr hl' (by simpa using hf)
  cases c with
  | nil => cases h
  | cons p r =>
    simp only at h ⊢
    by_cases h0 : (findP (p :: r) (clsE l)).2.2 ≠ 0
    · rw [if_pos h0] at h; cases h
    rw [if_neg h0] at h ⊢
    cases hg : groupsGo l p (propGo l (fuelE l) (negs (p :: r)) []).1 (l.filter (isCand p)) with
    | none => rw [hg] at h; cases h
    | some gs =>
      refine ⟨?_, rfl, rfl⟩
      show checkS l ⟨p :: r, (propGo l (fuelE l) (negs (p :: r)) []).2, gs⟩ = (2, 0, 0)
      have hu := uniq_of_right hE
      have hrt : ∀ x ∈ l, ∀ y ∈ x.2, rt y = true := fun x hx => rightC_rt (rightE_rt hE x hx)
      have hpf := prop_follow hu (A0 := negs (p :: r)) (fuelE l) (A := negs (p :: r)) (ids := []) rfl
      obtain ⟨hok, hsub⟩ := propGo_ok hrt (fuelE l) (ids := []) (okA_negs hc ha)
      have hnp : -p ∈ (propGo l (fuelE l) (negs (p :: r)) []).1 := hsub _ ((mem_negs hc).2 (by rw [Int.neg_neg]; simp))
      generalize propGo l (fuelE l) (negs (p :: r)) [] = PA at *
      have hfst := groupsGo_fst hg
      have hids : gs.map (·.1) = candIDs l p := hfst
      obtain ⟨hsort, hpos⟩ := rightE_sorted hE
      have hgp : groupsP l p gs = (0, 0) := by
        unfold groupsP
        have hn : (candIDs l p).find? (fun id => !(gs.map (·.1)).contains id) = none := by
          rw [List.find?_eq_none]
          intro id hid
          rw [hids]; simp [hid]
        rw [hn]
        simp only
        refine scan_ok (fun g hgm => by rw [← hids]; exact List.mem_map.2 ⟨g, hgm, rfl⟩) ?_ fun g hgm => ?_
        · have h1 : ((l.filter (isCand p)).map (·.1)).Pairwise (· < ·) := by
            rw [List.pairwise_map]; exact hsort.filter _
          rw [← hfst, List.pairwise_map] at h1
          exact h1
        · have : g.1 ∈ (l.filter (isCand p)).map (·.1) := by rw [← hfst]; exact List.mem_map.2 ⟨g, hgm, rfl⟩
          obtain ⟨x, hx, e⟩ := List.mem_map.1 this
          rw [← e]; exact hpos x (List.mem_filter.1 hx).1
      have hck : checkG l p PA.1 gs = (0, 0) := by
        refine checkG_ok fun g hgm d hd ho => ?_
        obtain ⟨x, hx, e, hcase⟩ := groupsGo_each hg g hgm
        obtain ⟨hxl, hxc⟩ := List.mem_filter.1 hx
        have ed : d = x.2 := by
          rw [e, uniq_mem hu x hxl] at hd
          exact (Option.some.inj hd).symm
        subst ed
        rcases hcase with hcl | ⟨hfound, eh⟩
        · rw [hcl] at ho; cases ho
        · unfold isCand at hxc
          simp only [Bool.and_eq_true, List.contains_iff_mem, Bool.not_eq_true'] at hxc
          have hfr := fails_free hok hnp (hrt x hxl) hxc.1 hxc.2 ho
          have hfc : rightC (failsP p PA.1 x.2) = true := by
            cases hfc : rightC (failsP p PA.1 x.2)
            · exfalso
              have : findP (failsP p PA.1 x.2) (clsE l) = ([], false, 20) := by unfold findP; rw [hfc]; simp
              rw [this] at hfound; cases hfound
            · rfl
          rw [eh]
          have hset : ∀ y, y ∈ PA.1 ++ (restP p PA.1 x.2).1 ↔ y ∈ negs (failsP p PA.1 x.2) := by
            intro y
            rw [mem_negs hfc]
            simp only [failsP, List.mem_map]
            constructor
            · exact fun hy => ⟨y, hy, rfl⟩
            · rintro ⟨w, hw, e⟩
              have e2 : w = y := by omega
              rw [← e2]; exact hw
          exact find_named hE hl hfc hfr hset hfound
      unfold checkS
      rw [if_neg (by rw [hE]; simp), if_neg (by show ¬ ((!rightC (p :: r)) = true); rw [hc]; simp), if_neg (by show ¬ (alwaysC (p :: r) = true); rw [ha]; simp)]
      simp only
      rw [hpf]
      simp only
      rw [if_neg (by simp), if_neg (by simp), hgp, hck]
      simp

end Go.Rt
