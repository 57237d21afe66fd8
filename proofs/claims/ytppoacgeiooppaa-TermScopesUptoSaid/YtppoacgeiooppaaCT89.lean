/- The row of TermScopes: the call returns true and leaves its arguments as they were, for every input of bulk at most 1048576. -/
import Derived.Test.YtppoacgeiooppaaCT85
import Derived.Test.YtppoacgeiooppaaCT51
set_option linter.unusedSimpArgs false
set_option linter.unusedVariables false
namespace Go.Proofs.Ytppoacgeiooppaa
open Go.AL Go.ChangeShapes Go.WideShapes Go.ChangeAt Go.RowKit

set_option maxRecDepth 100000 in
theorem termScopesUpto_lifted (os : Os) (started : os.Started) (H : Type) (enc : TypeId × Value → H) (F : Stop.Interp) :
    ReturnsInHanded {} Try.checked os 6 .any ((Rows.OpenSpec.upto Rows.termScopesSpec).pre6 enc Try.prog Try.f6 Rows.termScopesUptoRow.domain false) (((Rows.OpenSpec.upto Rows.termScopesSpec).at F).post enc Try.prog Try.f6 false true false false) := by
  refine returnsInHanded_of_calls (C := Try.checked) own started (by kernel_rfl)
    (OpenSpec.witness (enc := enc) (C := Try.checked) (s := Rows.OpenSpec.upto Rows.termScopesSpec) (k := Rows.uptoSmall) rfl false ⟨#[], #[.agg #[.slice none 0 0, .slice none 0 0], .slice none 0 0, .slice none 0 0, .slice none 0 0, .agg #[.int .i64 0, .int .i64 0, .string .empty, .int .i64 0, .slice none 0 0, .slice none 0 0]], []⟩ 8 (by kernel_rfl) (by kernel_rfl) (by kernel_rfl)
      (x := ([.agg [.nil, .nil], .nil, .nil, .nil, .agg [.lit (.int .i64 0), .lit (.int .i64 0), .lit (.string []), .lit (.int .i64 0), .nil, .nil]], [], [])) (by kernel_rfl) rfl (by kernel_rfl)) ?_
  intro w tape i _ hsh _ hok hpre hholds
  obtain ⟨_, _, _, fn', hfn', _, _, _, _, hval⟩ := hok
  have e : fn' = Try.f6 := Option.some.inj (hfn'.symm.trans Try.func6)
  subst e
  obtain ⟨ds, gs, before, hw, hc, hkk⟩ := (OpenSpec.pre_some (s := Rows.OpenSpec.upto Rows.termScopesSpec) (k := Rows.uptoSmall) rfl _ _ _ _).1 hpre.1
  have hwt : (DataW.weightsEach Try.prog (Try.f6.params.toList ++ Rows.termScopesSpec.plain.varTypes Try.prog) (ds ++ gs)).all (· ≤ reachBytes) = true := hpre.2.weights hw
  have hw' := DataW.Whole.of_heap (w' := w.forCall tape i) (by rfl) hw
  have contract : Calls Try.prog 6 i.args (w.forCall tape i) fun e W' => ∃ v, e = .returned v ∧ Rows.termScopesSpec.post enc Try.prog Try.f6 false true false false (w.forCall tape i) i.args v W' := by
    clear hpre
    generalize w.forCall tape i = W at *
    generalize i.args = args at *
    have hsh' : W.ShapedOpen Try.checked.prog := hsh
    refine row_true laidOut (by kernel_rfl) (tb := 4) (by kernel_rfl) Try.underlying4 rfl (fun l hl => by match l, hl with | [a0, a1, a2, a3, a4], _ => rfl) hw' ?_
    obtain ⟨p, q, hA, hV, -⟩ := hw'
    obtain ⟨rfl, rfl⟩ := trodVars_none hV
    rw [show Try.f6.params.toList = [25, 37, 37, 37, 30] from by kernel_rfl] at hA
    obtain ⟨v0, v1, v2, v3, v4, d0, d1, d2, d3, d4, p0, p1, p2, p3, p4, rfl, rfl, rfl, h0, h1, h2, h3, h4⟩ := trodAll_fiveL hA
    obtain ⟨cs0, fu0, rfl, k0⟩ := trod_aggr Try.underlying25 (hval 0 _ _ rfl rfl) h0
    obtain ⟨g0, e0, ok0, L0, b0⟩ := reads_prog _ _ _ k0
    obtain rfl : cs0 = (AV.vals g0.cs).toArray := by rw [e0]
    have L0' := L0 (light_at hwt (j := 0) (by kernel_rfl) rfl)
    have hb0 := Nat.le_trans b0 (bulk_at hkk (by simp))
    obtain ⟨fu1, k1⟩ := trod_slice Try.underlying37 (hval 1 _ _ rfl rfl) h1
    obtain ⟨hd1, l1, e1, ok1, L1, b1⟩ := reads_strs k1
    obtain rfl := List.cons.inj e1 |>.1
    have L1' := L1 (light_at hwt (j := 1) (by kernel_rfl) rfl)
    have hb1 := Nat.le_trans b1 (bulk_at hkk (by simp))
    obtain ⟨fu2, k2⟩ := trod_slice Try.underlying37 (hval 2 _ _ rfl rfl) h2
    obtain ⟨hd2, l2, e2, ok2, L2, b2⟩ := reads_strs k2
    obtain rfl := List.cons.inj e2 |>.1
    have L2' := L2 (light_at hwt (j := 2) (by kernel_rfl) rfl)
    have hb2 := Nat.le_trans b2 (bulk_at hkk (by simp))
    obtain ⟨fu3, k3⟩ := trod_slice Try.underlying37 (hval 3 _ _ rfl rfl) h3
    obtain ⟨hd3, l3, e3, ok3, L3, b3⟩ := reads_strs k3
    obtain rfl := List.cons.inj e3 |>.1
    have L3' := L3 (light_at hwt (j := 3) (by kernel_rfl) rfl)
    have hb3 := Nat.le_trans b3 (bulk_at hkk (by simp))
    obtain ⟨cs4, fu4, rfl, k4⟩ := trod_aggr Try.underlying30 (hval 4 _ _ rfl rfl) h4
    obtain ⟨g4, e4, ok4, L4, b4⟩ := reads_term _ _ _ k4
    obtain rfl : cs4 = (AV.vals g4.cs).toArray := by rw [e4]
    have L4' := L4 (light_at hwt (j := 4) (by kernel_rfl) rfl)
    have hb4 := Nat.le_trans b4 (bulk_at hkk (by simp))
    obtain ⟨m, hm⟩ := Try.laysM144.s1_3 W hsh
    exact calls_of_row (args := [g0.av, strsAV v1 l1, strsAV v2 l2, strsAV v3 l3, g4.av]) W hm ⟨ok0, ok1, ok2, ok3, ok4, trivial⟩ (termScopes_calls g0 (pfit_of L0') v1 v2 v3 l1 l2 l3 g4 (smT_sh g4 L4') (by omega) (by omega) _ (gok_hp0 m))
  refine contract.mono fun e W' ⟨v, he, hp⟩ => ?_
  subst he
  exact ChangeSpec.post_blind hp

theorem termScopesUpto_holds : Rows.TermScopesUptoSaid := by
  refine OpenClaim.holds_of_cond 6 Try.f6 rfl rfl rfl rfl rfl rfl rfl ⟨rfl, rfl, rfl, rfl, rfl⟩ rfl rfl rfl rfl rfl (by kernel_rfl) Try.func6 (by kernel_rfl) (of_decide_eq_true (by kernel_rfl))
    (by unfold Func.isWrapper; rw [if_neg (by decide +kernel)]; exact ⟨rfl, rfl⟩) (fun os started H enc _ F => termScopesUpto_lifted os started H enc F)
#print axioms termScopesUpto_holds
end Go.Proofs.Ytppoacgeiooppaa
