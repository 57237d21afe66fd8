/- The row of TermFrees: the call returns true and leaves its arguments as they were, for every input of bulk at most 1048576. -/
import Derived.Test.YtppoacgeiooppaaCT84
import Derived.Test.YtppoacgeiooppaaCT51
set_option linter.unusedSimpArgs false
set_option linter.unusedVariables false
namespace Go.Proofs.Ytppoacgeiooppaa
open Go.AL Go.ChangeShapes Go.WideShapes Go.ChangeAt Go.RowKit

set_option maxRecDepth 100000 in
theorem termFreesUpto_lifted (os : Os) (started : os.Started) (H : Type) (enc : TypeId × Value → H) (F : Stop.Interp) :
    ReturnsInHanded {} Try.checked os 5 .any ((Rows.OpenSpec.upto Rows.termFreesSpec).pre6 enc Try.prog Try.f5 Rows.termFreesUptoRow.domain false) (((Rows.OpenSpec.upto Rows.termFreesSpec).at F).post enc Try.prog Try.f5 false true false false) := by
  refine returnsInHanded_of_calls (C := Try.checked) own started (by kernel_rfl)
    (OpenSpec.witness (enc := enc) (C := Try.checked) (s := Rows.OpenSpec.upto Rows.termFreesSpec) (k := Rows.uptoSmall) rfl false ⟨#[], #[.agg #[.int .i64 0, .int .i64 0, .string .empty, .int .i64 0, .slice none 0 0, .slice none 0 0]], []⟩ 8 (by kernel_rfl) (by kernel_rfl) (by kernel_rfl)
      (x := ([.agg [.lit (.int .i64 0), .lit (.int .i64 0), .lit (.string []), .lit (.int .i64 0), .nil, .nil]], [], [])) (by kernel_rfl) rfl (by kernel_rfl)) ?_
  intro w tape i _ hsh _ hok hpre hholds
  obtain ⟨_, _, _, fn', hfn', _, _, _, _, hval⟩ := hok
  have e : fn' = Try.f5 := Option.some.inj (hfn'.symm.trans Try.func5)
  subst e
  obtain ⟨ds, gs, before, hw, hc, hkk⟩ := (OpenSpec.pre_some (s := Rows.OpenSpec.upto Rows.termFreesSpec) (k := Rows.uptoSmall) rfl _ _ _ _).1 hpre.1
  have hwt : (DataW.weightsEach Try.prog (Try.f5.params.toList ++ Rows.termFreesSpec.plain.varTypes Try.prog) (ds ++ gs)).all (· ≤ reachBytes) = true := hpre.2.weights hw
  have hw' := DataW.Whole.of_heap (w' := w.forCall tape i) (by rfl) hw
  have contract : Calls Try.prog 5 i.args (w.forCall tape i) fun e W' => ∃ v, e = .returned v ∧ Rows.termFreesSpec.post enc Try.prog Try.f5 false true false false (w.forCall tape i) i.args v W' := by
    clear hpre
    generalize w.forCall tape i = W at *
    generalize i.args = args at *
    have hsh' : W.ShapedOpen Try.checked.prog := hsh
    refine row_true laidOut (by kernel_rfl) (tb := 4) (by kernel_rfl) Try.underlying4 rfl (fun l hl => by match l, hl with | [a0], _ => rfl) hw' ?_
    obtain ⟨p, q, hA, hV, -⟩ := hw'
    obtain ⟨rfl, rfl⟩ := trodVars_none hV
    rw [show Try.f5.params.toList = [30] from by kernel_rfl] at hA
    obtain ⟨v0, d0, rfl, rfl, h0⟩ := trodAll_one hA
    obtain ⟨cs0, fu0, rfl, k0⟩ := trod_aggr Try.underlying30 (hval 0 _ _ rfl rfl) h0
    obtain ⟨g0, e0, ok0, L0, b0⟩ := reads_term _ _ _ k0
    obtain rfl : cs0 = (AV.vals g0.cs).toArray := by rw [e0]
    have L0' := L0 (light_at hwt (j := 0) (by kernel_rfl) rfl)
    have hb0 := Nat.le_trans b0 (bulk_at hkk (by simp))
    obtain ⟨m, hm⟩ := Try.laysM144.s1_3 W hsh
    have hb0' : nmT g0 + nodesT g0 ≤ 1048576 := hb0
    exact calls_of_row (args := [g0.av]) W hm ⟨ok0, trivial⟩ (termFrees_calls g0 (smT_sh g0 L0') (by omega) _ (gok_hp0 m))
  refine contract.mono fun e W' ⟨v, he, hp⟩ => ?_
  subst he
  exact ChangeSpec.post_blind hp

theorem termFreesUpto_holds : Rows.TermFreesUptoSaid := by
  refine OpenClaim.holds_of_cond 5 Try.f5 rfl rfl rfl rfl rfl rfl rfl ⟨rfl, rfl, rfl, rfl, rfl⟩ rfl rfl rfl rfl rfl (by kernel_rfl) Try.func5 (by kernel_rfl) (of_decide_eq_true (by kernel_rfl))
    (by unfold Func.isWrapper; rw [if_neg (by decide +kernel)]; exact ⟨rfl, rfl⟩) (fun os started H enc _ F => termFreesUpto_lifted os started H enc F)
#print axioms termFreesUpto_holds
end Go.Proofs.Ytppoacgeiooppaa
