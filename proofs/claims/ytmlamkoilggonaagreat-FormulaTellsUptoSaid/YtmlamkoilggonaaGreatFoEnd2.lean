/-
  FormulaTells, where what it reads is of bulk at most 1048576: the given statement, with no condition of ours.
-/
import Derived.Test.YtmlamkoilggonaaGreatFoTm
import Derived.Test.YtmlamkoilggonaaGreatSxOp
set_option linter.unusedVariables false
namespace Go.Proofs.YtmlamkoilggonaaGreat
open Go Go.Sx Go.ChangeShapes Go.WideShapes Go.ChangeAt Go.RowKit

variable {H : Type}

theorem bulkAll_sum : ∀ es : List (DataW H), Rows.uptoBulkAll es = (es.map Rows.uptoBulk).sum
  | [] => by simp [Rows.uptoBulkAll]
  | d :: r => by rw [Rows.uptoBulkAll, bulkAll_sum r]; simp
theorem bulk_ok : BulkOk (H := H) Rows.uptoBulk where
  pos := fun d => by
    cases d with
    | lit l => cases l <;> simp [Rows.uptoBulk]
    | _ => simp [Rows.uptoBulk]
  slice := fun es sp => by
    rw [Rows.uptoBulk, bulkAll_sum]; omega
  part := fun ps p hp => by
    rw [Rows.uptoBulk, bulkAll_sum]
    have := le_sum_map (f := Rows.uptoBulk) hp
    omega

theorem cells24_ : Tryz.prog.cellsOf 24 = 2 := by kernel_rfl
theorem cells22_ : Tryz.prog.cellsOf 22 = 1 := by kernel_rfl
theorem cells49_ : Tryz.prog.cellsOf 49 = 1 := by kernel_rfl
theorem cells37_ : Tryz.prog.cellsOf 37 = 1 := by kernel_rfl

variable {enc : TypeId × Value → H} {W : World} {base : Nat} {v : Value} {d : DataW H} {p : List MemPlace}

set_option maxRecDepth 100000 in
theorem arg_formula (hval : Value.okWide Tryz.prog W .any base 24 v) (h : DataW.Trod enc Tryz.prog W 0 (fun _ => true) true 24 v d p) (hN : Rows.uptoBulk d ≤ 1048576) :
    ∃ (n : Int) (s : Sl) (cs : List (List Int)), v = .agg #[.int .i64 n, .slice s.a s.len s.cap] ∧ At W.heap (Go.Proofs.S.lli cs s) ∧ cs.length ≤ 1048576 ∧ ∀ c ∈ cs, c.length ≤ 1048576 := by
  simp only [Value.okWide, Tryz.underlying24] at hval
  obtain ⟨vs, rfl, _⟩ := hval
  obtain ⟨fuel, hf⟩ := h
  have hr : ReadsB H enc Rows.uptoBulk 1048576 Tryz.prog W 24 vs.toList := ⟨fuel, _, hf, hN⟩
  obtain ⟨hl, hx⟩ := readsB_struct bulk_ok Tryz.underlying24 hr
  rw [cells24_] at hl
  obtain ⟨u, w, e⟩ : ∃ u w, vs.toList = [u, w] := by
    match vs.toList, hl with
    | [u, w], _ => exact ⟨u, w, rfl⟩
  have r0 : ReadsB H enc Rows.uptoBulk 1048576 Tryz.prog W 3 ((vs.toList.drop 0).take (Tryz.prog.cellsOf 3)) := hx 0 _ rfl
  have r1 : ReadsB H enc Rows.uptoBulk 1048576 Tryz.prog W 22 ((vs.toList.drop 1).take (Tryz.prog.cellsOf 22)) := hx 1 _ rfl
  rw [e, cells3_] at r0
  rw [e, cells22_] at r1
  change ReadsB H enc Rows.uptoBulk 1048576 Tryz.prog W 3 [u] at r0
  change ReadsB H enc Rows.uptoBulk 1048576 Tryz.prog W 22 [w] at r1
  obtain ⟨n, e0, _⟩ := reads_int Tryz.underlying3 r0.reads
  obtain ⟨s, cs, e1, hA, hl1, hc⟩ := rsgB (I := fun c p => Go.Proofs.S.li c p) (Q := fun c => c.length ≤ 1048576) bulk_ok Tryz.underlying22 cells49_ (fun cs' h' => by
    obtain ⟨s2, xs, e2, hA2, hN2, _⟩ := rslB_int bulk_ok Tryz.underlying49 Tryz.underlying37 cells37_ h'
    exact ⟨s2, xs, e2, hA2, hN2⟩) r1
  refine ⟨n, s, cs, ?_, hA, hl1, hc⟩
  have : vs = #[u, w] := Array.toList_inj.1 (by simpa using e)
  rw [this]
  simp only [List.cons.injEq, and_true] at e0 e1
  rw [e0, e1]

set_option maxRecDepth 100000 in
theorem formulaTells_lifted (os : Os) (started : os.Started) (H : Type) (enc : TypeId × Value → H) (F : Stop.Interp) :
    ReturnsInHanded {} Tryz.checked os 3 .any ((Rows.OpenSpec.upto Rows.formulaTellsSpec).pre6 enc Tryz.prog Tryz.f3 Rows.formulaTellsUptoRow.domain false) (((Rows.OpenSpec.upto Rows.formulaTellsSpec).at F).post enc Tryz.prog Tryz.f3 false true false false) := by
  refine lift_true_cond (C := Tryz.checked) (tb := 4) (k := Rows.uptoSmall) rfl own_ started (by kernel_rfl) Tryz.func3
    (OpenSpec.witness (enc := enc) (C := Tryz.checked) (s := Rows.OpenSpec.upto Rows.formulaTellsSpec) (k := Rows.uptoSmall) (x := ([.agg [.lit (.int .i64 0), .nil], .nil, .lit (.int .i64 0)], [], [])) rfl false ⟨#[], #[.agg #[.int .i64 0, .slice none 0 0], .slice none 0 0, .int .i64 0], []⟩ 8 (by kernel_rfl) (by kernel_rfl) (by kernel_rfl) (by kernel_rfl) (by kernel_rfl) (by kernel_rfl))
    laidOut_ ?_ rfl rfl Tryz.underlying4 rfl ?_ ?_
  · rw [Tryz.params3]
    intro t ht
    simp at ht
    rcases ht with rfl | rfl | rfl <;> exact ⟨by kernel_rfl, of_decide_eq_true (by kernel_rfl)⟩
  · intro ds hd
    rw [Tryz.params3] at hd
    rw [List.append_nil]
    rcases ds with _ | ⟨d0, _ | ⟨d1, _ | ⟨d2, _ | ⟨d3, ds⟩⟩⟩⟩
    all_goals first | exact ⟨rfl, rfl, rfl⟩ | (simp at hd)
  intro W base args ds p hval hA hlt hk
  rw [Tryz.params3] at hA hval
  obtain ⟨v0, v1, v2, d0, d1, d2, p0, p1, p2, rfl, rfl, rfl, h0, h1, h2⟩ := trodAll_three hA
  have hN : Rows.uptoBulk d0 ≤ 1048576 := by
    have := of_decide_eq_true hk
    simp only [List.append_nil, Rows.uptoBulkAll] at this
    omega
  obtain ⟨n0, s0, x0, rfl, at0, w0, c0⟩ := arg_formula (hval 0 24 v0 rfl rfl) h0 hN
  obtain ⟨s1, x1, rfl, at1, _⟩ := arg_bs (hval 1 25 v1 rfl rfl) h1
  obtain ⟨k2, rfl, rfl, rfl, w2⟩ := open_int Tryz.underlying3 (hval 2 3 v2 rfl rfl) h2
  exact calls_true (P := Tryz.prog) (fn := Tryz.f3) Go.Proofs.S.follows Tryz.func3 (by kernel_rfl) (by kernel_rfl) W
    (Eq.mpr (Go.Proofs.S.E_salvorlaw05_FormulaTells (n0, s0, ()) s1 k2 _ W.heap) (Go.Proofs.S.formulaTells_F at0 at1 w0 c0 k2 _ fun x h hx => hx))

theorem formulaTellsUpto_holds : Rows.FormulaTellsUptoSaid :=
  OpenClaim.holds_of_cond 3 Tryz.f3 rfl rfl rfl rfl rfl rfl rfl ⟨rfl, rfl, rfl, rfl, rfl⟩ rfl rfl rfl rfl rfl (by kernel_rfl) Tryz.func3 (by kernel_rfl)
    (of_decide_eq_true (by kernel_rfl)) (by unfold Func.isWrapper; first | (rw [if_pos (by decide +kernel)]; kernel_rfl) | (rw [if_neg (by decide +kernel)]; exact ⟨rfl, rfl⟩))
    (fun os started H enc _ F => formulaTells_lifted os started H enc F)

end Go.Proofs.YtmlamkoilggonaaGreat
