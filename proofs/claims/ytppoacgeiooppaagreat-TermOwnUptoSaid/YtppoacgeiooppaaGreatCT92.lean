/- The row of TermOwn: the call returns true and leaves its arguments as they were, for every input of bulk at most 1048576. -/
import Derived.Test.YtppoacgeiooppaaGreatCT91
import Derived.Test.YtppoacgeiooppaaGreatCT51
set_option linter.unusedSimpArgs false
set_option linter.unusedVariables false
namespace Go.Proofs.YtppoacgeiooppaaGreat
open Go.AL Go.ChangeShapes Go.WideShapes Go.ChangeAt Go.RowKit

set_option maxRecDepth 100000 in
theorem termOwnUpto_lifted (os : Os) (started : os.Started) (H : Type) (enc : TypeId × Value → H) (F : Stop.Interp) :
    ReturnsInHanded {} Tryz.checked os 7 .any ((Rows.OpenSpec.upto Rows.termOwnSpec).pre6 enc Tryz.prog Tryz.f7 Rows.termOwnUptoRow.domain false) (((Rows.OpenSpec.upto Rows.termOwnSpec).at F).post enc Tryz.prog Tryz.f7 false true false false) := by
  refine returnsInHanded_of_calls (C := Tryz.checked) own started (by kernel_rfl)
    (OpenSpec.witness (enc := enc) (C := Tryz.checked) (s := Rows.OpenSpec.upto Rows.termOwnSpec) (k := Rows.uptoSmall) rfl false ⟨#[], #[.agg #[.slice none 0 0, .slice none 0 0], .slice none 0 0, .slice none 0 0, .agg #[.int .i64 0, .int .i64 0, .string .empty, .int .i64 0, .slice none 0 0, .slice none 0 0]], []⟩ 8 (by kernel_rfl) (by kernel_rfl) (by kernel_rfl)
      (x := ([.agg [.nil, .nil], .nil, .nil, .agg [.lit (.int .i64 0), .lit (.int .i64 0), .lit (.string []), .lit (.int .i64 0), .nil, .nil]], [], [])) (by kernel_rfl) rfl (by kernel_rfl)) ?_
  intro w tape i _ hsh _ hok hpre hholds
  obtain ⟨_, _, _, fn', hfn', _, _, _, _, hval⟩ := hok
  have e : fn' = Tryz.f7 := Option.some.inj (hfn'.symm.trans Tryz.func7)
  subst e
  obtain ⟨ds, gs, before, hw, hc, hkk⟩ := (OpenSpec.pre_some (s := Rows.OpenSpec.upto Rows.termOwnSpec) (k := Rows.uptoSmall) rfl _ _ _ _).1 hpre.1
  have hwt : (DataW.weightsEach Tryz.prog (Tryz.f7.params.toList ++ Rows.termOwnSpec.plain.varTypes Tryz.prog) (ds ++ gs)).all (· ≤ reachBytes) = true := hpre.2.weights hw
  have hw' := DataW.Whole.of_heap (w' := w.forCall tape i) (by rfl) hw
  have contract : Calls Tryz.prog 7 i.args (w.forCall tape i) fun e W' => ∃ v, e = .returned v ∧ Rows.termOwnSpec.post enc Tryz.prog Tryz.f7 false true false false (w.forCall tape i) i.args v W' := by
    clear hpre
    generalize w.forCall tape i = W at *
    generalize i.args = args at *
    have hsh' : W.ShapedOpen Tryz.checked.prog := hsh
    refine row_true laidOut (by kernel_rfl) (tb := 4) (by kernel_rfl) Tryz.underlying4 rfl (fun l hl => by match l, hl with | [a0, a1, a2, a3], _ => rfl) hw' ?_
    obtain ⟨p, q, hA, hV, -⟩ := hw'
    obtain ⟨rfl, rfl⟩ := trodVars_none hV
    rw [show Tryz.f7.params.toList = [25, 48, 48, 41] from by kernel_rfl] at hA
    obtain ⟨v0, v1, v2, v3, d0, d1, d2, d3, p0, p1, p2, p3, rfl, rfl, rfl, h0, h1, h2, h3⟩ := trodAll_fourL hA
    obtain ⟨cs0, fu0, rfl, k0⟩ := trod_aggr Tryz.underlying25 (hval 0 _ _ rfl rfl) h0
    obtain ⟨g0, e0, ok0, L0, b0⟩ := reads_prog _ _ _ k0
    obtain rfl : cs0 = (AV.vals g0.cs).toArray := by rw [e0]
    have L0' := L0 (light_at hwt (j := 0) (by kernel_rfl) rfl)
    have hb0 := Nat.le_trans b0 (bulk_at hkk (by simp))
    obtain ⟨fu1, k1⟩ := trod_slice Tryz.underlying48 (hval 1 _ _ rfl rfl) h1
    obtain ⟨hd1, l1, e1, ok1, L1, b1⟩ := reads_strs k1
    obtain rfl := List.cons.inj e1 |>.1
    have L1' := L1 (light_at hwt (j := 1) (by kernel_rfl) rfl)
    have hb1 := Nat.le_trans b1 (bulk_at hkk (by simp))
    obtain ⟨fu2, k2⟩ := trod_slice Tryz.underlying48 (hval 2 _ _ rfl rfl) h2
    obtain ⟨hd2, l2, e2, ok2, L2, b2⟩ := reads_strs k2
    obtain rfl := List.cons.inj e2 |>.1
    have L2' := L2 (light_at hwt (j := 2) (by kernel_rfl) rfl)
    have hb2 := Nat.le_trans b2 (bulk_at hkk (by simp))
    obtain ⟨cs3, fu3, rfl, k3⟩ := trod_aggr Tryz.underlying41 (hval 3 _ _ rfl rfl) h3
    obtain ⟨g3, e3, ok3, L3, b3⟩ := reads_term _ _ _ k3
    obtain rfl : cs3 = (AV.vals g3.cs).toArray := by rw [e3]
    have L3' := L3 (light_at hwt (j := 3) (by kernel_rfl) rfl)
    have hb3 := Nat.le_trans b3 (bulk_at hkk (by simp))
    obtain ⟨m, hm⟩ := Tryz.laysM144.s1_3 W hsh
    have hb3' : nmT g3 + nodesT g3 ≤ 1048576 := hb3
    exact calls_of_row (args := [g0.av, strsAV v1 l1, strsAV v2 l2, g3.av]) W hm ⟨ok0, ok1, ok2, ok3, trivial⟩ (termOwn_calls g0 (pfit_of L0') L0' v1 v2 l1 l2 g3 L3' (by omega) _ (gok_hp0 m))
  refine contract.mono fun e W' ⟨v, he, hp⟩ => ?_
  subst he
  exact ChangeSpec.post_blind hp

theorem termOwnUpto_holds : Rows.TermOwnUptoSaid := by
  refine OpenClaim.holds_of_cond 7 Tryz.f7 rfl rfl rfl rfl rfl rfl rfl ⟨rfl, rfl, rfl, rfl, rfl⟩ rfl rfl rfl rfl rfl (by kernel_rfl) Tryz.func7 (by kernel_rfl) (of_decide_eq_true (by kernel_rfl))
    (by unfold Func.isWrapper; rw [if_neg (by decide +kernel)]; exact ⟨rfl, rfl⟩) (fun os started H enc _ F => termOwnUpto_lifted os started H enc F)
#print axioms termOwnUpto_holds
end Go.Proofs.YtppoacgeiooppaaGreat
