/-
  Slices of slices of one's own, sorted by what stands behind them, and compacted. Nothing here names a program.
-/
import Derived.Test.YtchedlkmgahicaaSxCk
import Derived.Test.YtchedlkmgahicaaSxSort
set_option linter.unusedVariables false
namespace Go.Sx
open Go Go.Sort

theorem Sep.mem : ∀ {As : List Asn} {S : List Nat} {h : Heap} {B : Asn}, Sep As S h → B ∈ As → ∃ SB, B.P SB h ∧ ∀ b ∈ SB, b ∈ S
  | [], _, _, _, _, hB => by cases hB
  | A :: As, S, h, B, ⟨S1, S2, e, hd, hA, hs⟩, hB => by
    subst e
    rcases List.mem_cons.1 hB with rfl | hB
    · exact ⟨S1, hA, fun b hb => List.mem_append_left _ hb⟩
    · obtain ⟨SB, p, q⟩ := Sep.mem hs hB
      exact ⟨SB, p, fun b hb => List.mem_append_right _ (q b hb)⟩

section
variable {fr : Fr} {G As : List Asn} {h h' : Heap} {A B A' : Asn}

theorem Hs.focusGA (st : Hs fr G As h) (k : Nat) (hk : As[k]? = some A) :
    ∃ S1, A.P S1 h ∧ (∀ h', Ext S1 h h' → (∀ B ∈ G, At h' B) ∧ ∀ B ∈ As.eraseIdx k, At h' B) ∧ ∀ (A' : Asn) S1' h', Ext S1 h h' → A'.P S1' h' → (∀ b ∈ S1', b ∈ S1 ∨ h.size ≤ b) → Hs fr G (As.set k A') h' := by
  obtain ⟨S, hs, hz, hf⟩ := st
  obtain ⟨T1, T2, hm, hd, hT, hr, hw⟩ := hs.focus k hk
  refine ⟨T1, hT, fun h' x => ⟨fun B hB => ?_, fun B hB => ?_⟩, fun A' S1' h' x hA' hS => ?_⟩
  · obtain ⟨SB, pB, dB⟩ := hz B hB
    exact ⟨SB, Asn.ext pB x fun b hb hin => dB b hb ((hm b).2 (.inl hin))⟩
  · obtain ⟨SB, pB, dB⟩ := hr.mem hB
    exact ⟨SB, Asn.ext pB x fun b hb hin => hd b hin (dB b hb)⟩
  · have hlt2 : ∀ b ∈ T2, b < h.size := fun b hb => (hr.cel b hb).lt
    have hr' : Sep (As.eraseIdx k) T2 h' := hr.keep x.1 fun b hb => x.2 b (hlt2 b hb) (fun hin => hd b hin hb)
    obtain ⟨S', hm', hs'⟩ := hw A' S1' h' hr' hA' (fun b hb hin => (hS b hb).elim (fun k => hd b k hin) (fun k => by have := hlt2 b hin; omega))
    have hSS : ∀ b ∈ S', b ∈ S ∨ h.size ≤ b := fun b hb => by
      rcases (hm' b).1 hb with k | k
      · exact (hS b k).imp (fun k => (hm b).2 (.inl k)) id
      · exact .inl ((hm b).2 (.inr k))
    refine ⟨S', hs', fun B hB => ?_, fun p hp => ?_⟩
    · obtain ⟨SB, pB, dB⟩ := hz B hB
      refine ⟨SB, Asn.ext pB x (fun b hb hin => dB b hb ((hm b).2 (.inl hin))), fun b hb hin => ?_⟩
      rcases hSS b hin with k | k
      · exact dB b hb k
      · have := At.lt pB b hb; omega
    · obtain ⟨e, hb⟩ := hf p hp
      refine ⟨e.trans x fun b hb' => hb b ((hm b).2 (.inl hb')), fun b hb' => ?_⟩
      rcases hSS b hb' with k | k
      · exact hb b k
      · exact .inr (Nat.le_trans e.1 k)

theorem Hs.moveS (st : Hs fr G As h) (k kc : Nat) (hk : As[k]? = some A) (hkc : As[kc]? = some B) (hne : k ≠ kc) (hA : ∀ S1 S2, A.P S1 h → B.P S2 h → (∀ b ∈ S1, b ∉ S2) → ∃ S', A'.P S' h ∧ ∀ b ∈ S', b ∈ S1 ∨ b ∈ S2) :
    Hs fr G ((As.set kc emp).set k A') h := by
  obtain ⟨S, hs, hz, hf⟩ := st
  obtain ⟨S1, S2, hm, hd, hB, hr, hw⟩ := hs.focus kc hkc
  obtain ⟨U, hmU, hsU⟩ := hw emp [] h hr rfl (by simp)
  obtain ⟨T1, T2, hmT, hdT, hA1, hrT, hwT⟩ := hsU.focus k (A := A) (by rw [List.getElem?_set, if_neg (fun e => hne e.symm)]; exact hk)
  have hsub : ∀ b, b ∈ T1 ∨ b ∈ T2 → b ∈ S2 := fun b hb => by
    rcases (hmU b).1 ((hmT b).2 hb) with h | h
    · cases h
    · exact h
  obtain ⟨V, hV, hVs⟩ := hA T1 S1 hA1 hB fun b hb hin => hd b hin (hsub b (.inl hb))
  obtain ⟨W, hmW, hsW⟩ := hwT A' V h hrT hV fun b hb hin => by
    rcases hVs b hb with q | q
    · exact hdT b q hin
    · exact hd b q (hsub b (.inr hin))
  have hWS : ∀ b ∈ W, b ∈ S := fun b hb => by
    rcases (hmW b).1 hb with q | q
    · rcases hVs b q with q | q
      · exact (hm b).2 (.inr (hsub b (.inl q)))
      · exact (hm b).2 (.inl q)
    · exact (hm b).2 (.inr (hsub b (.inr q)))
  exact ⟨W, hsW, hz.mono fun b hb => .inl (hWS b hb), hf.mono fun b hb => .inl (hWS b hb)⟩

theorem inner_mono {β : Type} {I J : β → Sl → Asn} (hIJ : ∀ c p S h, (I c p).P S h → (J c p).P S h) : ∀ {xs : List β} {ps : List Sl} {S : List Nat} {h : Heap}, Inner I xs ps S h → Inner J xs ps S h
  | [], [], _, _, e => e
  | x :: xs, p :: ps, S, h, ⟨S1, S2, e, hp, hi⟩ => ⟨S1, S2, e, hIJ _ _ _ _ hp, inner_mono hIJ hi⟩
  | [], _ :: _, _, _, e => e.elim
  | _ :: _, [], _, _, e => e.elim
theorem rsg_imp {β : Type} {I J : β → Sl → Asn} (hIJ : ∀ c p S h, (I c p).P S h → (J c p).P S h) {xs : List β} {s : Sl} {S : List Nat} {h : Heap} (hA : (rsg I xs s).P S h) : (rsg J xs s).P S h := by
  obtain ⟨ps, S1, S2, e, hp, hi⟩ := hA
  exact ⟨ps, S1, S2, e, hp, inner_mono hIJ hi⟩
theorem rsgA_mono {β : Type} {I J : β → Sl → Asn} (hIJ : ∀ c p S h, (I c p).P S h → (J c p).P S h) {xs : List β} {s : Sl} {h : Heap} (hA : At h (rsg I xs s)) : At h (rsg J xs s) :=
  let ⟨S, p⟩ := hA; ⟨S, rsg_imp hIJ p⟩

def Det {β : Type} (I : β → Sl → Asn) : Prop := ∀ x y p h, At h (I x p) → At h (I y p) → x = y

theorem det_rsl {α : Type} {enc : α → Value} (hi : ∀ x y, enc x = enc y → x = y) : Det (fun (xs : List α) p => rsl enc xs p) := by
  intro xs ys p h hA hB
  have l1 := rsl_len hA
  have l2 := rsl_len hB
  refine List.ext_getElem (by omega) fun i h1 h2 => ?_
  obtain ⟨a, ea, ca⟩ := rsl_cells hA (List.getElem?_eq_getElem h1)
  obtain ⟨b, eb, cb⟩ := rsl_cells hB (List.getElem?_eq_getElem h2)
  rw [ea] at eb; cases eb
  rw [ca] at cb
  exact hi _ _ (Option.some.inj cb)
theorem det_osl {α : Type} {t : TypeId} {enc : α → Value} (hi : ∀ x y, enc x = enc y → x = y) : Det (fun (xs : List α) p => osl t enc xs p) :=
  fun x y p h hA hB => det_rsl hi x y p h hA.rsl hB.rsl

structure SortedG {β : Type} (M : β → Prop) (c : β → β → Int) (xs : List β) (ps ys : List Sl) (val : Sl → β) : Prop where
  perm : ys.Perm ps
  vals : ps.map val = xs
  mem : ∀ p, M (val p)
  pair : ys.Pairwise (fun a b => decide (c (val b) (val a) < 0) = false)

theorem TotC.swo {α β : Type} {M : β → Prop} {c : β → β → Int} (T : TotC M c) (val : α → β) (hM : ∀ p, M (val p)) : SWO (fun a b : α => decide (c (val a) (val b) < 0)) where
  irrefl := fun x => by rw [T.self (hM x)]; rfl
  trans := fun x y z h k => by
    simp only [decide_eq_true_eq] at h k ⊢
    exact T.lt_trans (hM x) (hM y) (hM z) h k
  ntrans := fun x y z h k => by
    simp only [decide_eq_false_iff_not] at h k ⊢
    intro hlt
    have h1 := T.nlt (hM x) (hM y) h
    have h2 := T.nlt (hM y) (hM z) k
    have h3 := T.trans (hM z) (hM y) (hM x) h2 h1
    have h4 := (T.anti (hM x) (hM z)).1 hlt
    omega

theorem Inner.at {β : Type} {I : β → Sl → Asn} {xs : List β} {ps : List Sl} (hA : At h (inn I xs ps)) : ps.length = xs.length ∧ ∀ i (h1 : i < xs.length) (h2 : i < ps.length), At h (I xs[i] ps[i]) :=
  let ⟨S, p⟩ := hA; ⟨Inner.len p, fun i h1 h2 => Inner.get p i h1 h2⟩

theorem val_ex {β : Type} {I : β → Sl → Asn} {M : β → Prop} (hdet : Det I) {xs : List β} {ps : List Sl} (x0 : β) (hx0 : M x0) (hM : ∀ x ∈ xs, M x) (hA : At h (inn I xs ps)) : ∃ val : Sl → β, ps.map val = xs ∧ ∀ p, M (val p) := by
  obtain ⟨hl, hg⟩ := Inner.at hA
  classical
  refine ⟨fun p => if hp : ∃ i, ∃ (h1 : i < xs.length) (h2 : i < ps.length), ps[i] = p then xs[hp.choose]'(hp.choose_spec.1) else x0, ?_, fun p => ?_⟩
  · refine List.ext_getElem (by simpa using hl) fun i h1 h2 => ?_
    rw [List.getElem_map]
    have hi : i < ps.length := by simpa using h1
    have hp : ∃ j, ∃ (h1 : j < xs.length) (h2 : j < ps.length), ps[j] = ps[i] := ⟨i, h2, hi, rfl⟩
    rw [dif_pos hp]
    obtain ⟨q1, q2, q3⟩ := hp.choose_spec
    have a1 := hg hp.choose q1 q2
    rw [q3] at a1
    exact hdet _ _ _ h a1 (hg i h2 hi)
  · dsimp only
    split
    · exact hM _ (List.getElem_mem _)
    · exact hx0

section
variable {P : Program} {f : SF} {t : TypeId} {cmp : Value} {β : Type} {I : β → Sl → Asn} {M : β → Prop} {c : β → β → Int} {xs : List β} {s : Sl}

theorem at_of_val {ps : List Sl} {val : Sl → β} (hv : ps.map val = xs) (hA : At h (inn I xs ps)) {p : Sl} (hp : p ∈ ps) : At h (I (val p) p) ∧ val p ∈ xs := by
  obtain ⟨i, hi, rfl⟩ := List.mem_iff_getElem.1 hp
  obtain ⟨hl, hg⟩ := Inner.at hA
  have e : xs[i]'(by omega) = val ps[i] := by
    have : xs[i]? = some (val ps[i]) := by rw [← hv]; simp [hi]
    rw [List.getElem?_eq_getElem (by omega)] at this
    exact Option.some.inj this
  have := hg i (by omega) hi
  rw [e] at this
  exact ⟨this, by rw [← e]; exact List.getElem_mem _⟩

theorem Hs.sortG (S : Sorts P .sl f) (T : TotC M c) (x0 : β) (hx0 : M x0) (hdet : Det I) (st : Hs fr G As h) (k : Nat) (hk : As[k]? = some (osg I t xs s)) (hM : ∀ x ∈ xs, M x) (hlen : xs.length ≤ 1099511627776)
    (hc : ∀ x y p q h', x ∈ xs → y ∈ xs → At h' (I x p) → At h' (I y q) → (∀ A ∈ G, At h' A) → callF P cmp #[Ty.sl.enc p, Ty.sl.enc q] (.int .i64) (fun r h'' => ((r : Int) < 0 ↔ c x y < 0) ∧ Ext [] h' h'') h') {K : HP}
    (hK : ∀ ps ys val h', SortedG M c xs ps ys val → Hs fr G (As.set k (osl t Ty.sl.enc ys s) ++ [inn I xs ps]) h' → K h') :
    callT P f.len #[.int .u64 (IntKind.wrap .u64 (s.len : Int))] (.int .i64) (fun r0 => callT P f.pdq #[.slice s.a s.len s.cap, .int .i64 (0 : Int), .int .i64 (s.len : Int), .int .i64 r0, cmp] (.tup .nil) fun _ => K) h := by
  have hkl := (List.getElem?_eq_some_iff.1 hk).1
  obtain ⟨⟨ps, hl⟩, st⟩ := st.split (ι := { ps : List Sl // ps.length = xs.length }) (A1 := fun i => osl t Ty.sl.enc i.1 s) (A2 := fun i => inn I xs i.1) k hk fun S ⟨ps, S1, S2, e, hd, hp, hi⟩ => ⟨⟨ps, hi.len⟩, S1, S2, e, hd, by rw [List.append_nil] at hp; exact hp, hi⟩
  simp only at st
  have hinn : At h (inn I xs ps) := st.own As.length (by rw [List.getElem?_append_right (by simp)]; simp)
  obtain ⟨val, hv, hvM⟩ := val_ex (M := M) hdet x0 hx0 hM hinn
  have hkk : (As.set k (osl t Ty.sl.enc ps s) ++ [inn I xs ps])[k]? = some (osl t Ty.sl.enc ps s) := by
    rw [List.getElem?_append_left (by simpa using hkl), List.getElem?_set, if_pos rfl, if_pos hkl]
  obtain ⟨S1, p, hfz, hw⟩ := st.focusGA k hkk
  have hmem : inn I xs ps ∈ (As.set k (osl t Ty.sl.enc ps s) ++ [inn I xs ps]).eraseIdx k := by
    rw [List.eraseIdx_append_of_lt_length (by simpa using hkl)]; simp
  refine sort_c S (T.swo val hvM) p (by omega) (fun h' x y x' hx hy => ?_) (fun _ => K) fun ys h' q1 q2 q3 q4 => ?_
  · obtain ⟨g1, g2⟩ := hfz h' x'
    obtain ⟨a1, m1⟩ := at_of_val hv (g2 _ hmem) hx
    obtain ⟨a2, m2⟩ := at_of_val hv (g2 _ hmem) hy
    refine callF_of (hc _ _ x y h' m1 m2 a1 a2 g1) ?_
    rintro r h2 ⟨e, x2⟩
    exact ⟨by rw [e]; simp, x2⟩
  · have st2 := hw (osl t Ty.sl.enc ys s) S1 h' q4 q3 fun b hb => .inl hb
    rw [List.set_append_left _ _ (by simpa using hkl), List.set_set] at st2
    exact hK ps ys val h' ⟨q1, hv, hvM, q2⟩ st2

theorem pairwise_map' {α β : Type} {R : β → β → Prop} {f : α → β} {l : List α} (h : l.Pairwise fun a b => R (f a) (f b)) : (l.map f).Pairwise R := List.pairwise_map.2 h

theorem Hs.compactG [DecidableEq β] (T : TotC M c) {ps ys : List Sl} {val : Sl → β} (sg : SortedG M c xs ps ys val) (st : Hs fr G As h) (k kc : Nat) (hk : As[k]? = some (osl t Ty.sl.enc ys s)) (hkc : As[kc]? = some (inn I xs ps)) (hne : k ≠ kc)
    (hlen : xs.length ≤ 1099511627776) {fv : Value}
    (he : ∀ x y p q h', x ∈ xs → y ∈ xs → At h' (I x p) → At h' (I y q) → (∀ A ∈ G, At h' A) → callF P fv #[Ty.sl.enc p, Ty.sl.enc q] .bool (fun b h'' => b = decide (x = y) ∧ Ext [] h' h'') h') {K : Sl → HP}
    (hK : ∀ s' h', Hs fr G ((As.set kc emp).set k (rsg I (sortC c xs) s')) h' → K s' h') : W_compact P .sl (.slice none 0 0) s fv K h := by
  have hkl := (List.getElem?_eq_some_iff.1 hk).1
  have hkcl := (List.getElem?_eq_some_iff.1 hkc).1
  obtain ⟨S1, p, hfz, hw⟩ := st.focusGA k hk
  have hmem : inn I xs ps ∈ As.eraseIdx k := by
    rw [List.mem_eraseIdx_iff_getElem?]
    exact ⟨kc, fun e => hne e.symm, hkc⟩
  have hpl : ps.length = xs.length := by rw [← sg.vals]; simp
  refine w_compact (τ := .sl) (r := fun a b => decide (val a = val b)) p (by rw [sg.perm.length_eq]; omega) rfl leaf_sl (fun h' x' a ha b hb => ?_) fun s' h' p' x' => ?_
  · obtain ⟨g1, g2⟩ := hfz h' x'
    obtain ⟨a1, m1⟩ := at_of_val sg.vals (g2 _ hmem) (sg.perm.mem_iff.1 ha)
    obtain ⟨a2, m2⟩ := at_of_val sg.vals (g2 _ hmem) (sg.perm.mem_iff.1 hb)
    exact he _ _ a b h' m1 m2 a1 a2 g1
  · have st2 := hw (osl t Ty.sl.enc (cptR (fun a b => decide (val a = val b)) ys) s') S1 h' x' p' fun b hb => .inl hb
    have hM : ∀ x ∈ xs, M x := fun x hx => by
      rw [← sg.vals] at hx
      obtain ⟨p, _, rfl⟩ := List.mem_map.1 hx
      exact sg.mem p
    have ev : (cptR (fun a b => decide (val a = val b)) ys).map val = sortC c xs := by
      rw [cptR_map]
      refine cpt_sort T hM ?_ ?_
      · rw [← sg.vals]; exact sg.perm.map val
      · exact pairwise_map' (sg.pair.imp fun {a b} h => by simpa using h)
    have st3 := st2.moveS (A := osl t Ty.sl.enc (cptR (fun a b => decide (val a = val b)) ys) s') (B := inn I xs ps) (A' := rsg I (sortC c xs) s') k kc (by rw [List.getElem?_set, if_pos rfl, if_pos hkl]) (by rw [List.getElem?_set, if_neg hne]; exact hkc) hne ?_
    · rw [List.set_comm _ _ hne, List.set_set] at st3
      exact hK s' h' st3
    · intro T1 T2 h1 h2 _
      have hsub : ∀ p ∈ cptR (fun a b => decide (val a = val b)) ys, p ∈ ps := fun p hp => sg.perm.mem_iff.1 (cptR_mem hp)
      -- the blocks of those that stay
      have pick : ∀ zs : List Sl, (∀ p ∈ zs, p ∈ ps) → ∃ S', Inner I (zs.map val) zs S' h' ∧ ∀ b ∈ S', b ∈ T2 := by
        have one : ∀ (us : List β) (qs : List Sl) (T2 : List Nat), Inner I us qs T2 h' → qs.map val = us → ∀ p ∈ qs, ∃ S', (I (val p) p).P S' h' ∧ ∀ b ∈ S', b ∈ T2 := by
          intro us
          induction us with
          | nil => intro qs T2 hi hq p hp; cases qs with | nil => cases hp | cons => simp at hq
          | cons u us ih =>
            intro qs T2 hi hq p hp
            cases qs with
            | nil => cases hp
            | cons q qs =>
              obtain ⟨U1, U2, e, hu, hr⟩ := hi
              simp only [List.map_cons, List.cons.injEq] at hq
              subst e
              rcases List.mem_cons.1 hp with rfl | hp
              · exact ⟨U1, by rw [hq.1]; exact hu, fun b hb => List.mem_append_left _ hb⟩
              · obtain ⟨S', p1, p2⟩ := ih qs U2 hr hq.2 p hp
                exact ⟨S', p1, fun b hb => List.mem_append_right _ (p2 b hb)⟩
        intro zs
        induction zs with
        | nil => intro _; exact ⟨[], rfl, by simp⟩
        | cons z zs ih =>
          intro hz
          obtain ⟨U, q1, q2⟩ := ih fun p hp => hz p (by simp [hp])
          obtain ⟨V, r1, r2⟩ := one xs ps T2 h2 sg.vals z (hz z (by simp))
          exact ⟨V ++ U, ⟨V, U, rfl, r1, q1⟩, fun b hb => (List.mem_append.1 hb).elim (r2 b) (q2 b)⟩
      obtain ⟨U, q1, q2⟩ := pick _ hsub
      rw [ev] at q1
      exact ⟨T1 ++ U, ⟨_, T1, U, rfl, osl_rsl h1, q1⟩, fun b hb => (List.mem_append.1 hb).imp id (q2 b)⟩

end
end
end Go.Sx
