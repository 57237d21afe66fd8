/- The row of TermValid: the call returns true and leaves its arguments as they were, for every input. -/
import Derived.Test.YtppoacgeiooppaaGreatCT83
import Derived.Test.YtppoacgeiooppaaGreatCT51
set_option linter.unusedSimpArgs false
set_option linter.unusedVariables false
namespace Go.Proofs.YtppoacgeiooppaaGreat
open Go.AL Go.ChangeShapes Go.WideShapes Go.ChangeAt Go.RowKit

set_option maxRecDepth 100000 in
theorem termValid_lifted (os : Os) (started : os.Started) (H : Type) (enc : TypeId × Value → H) :
    ReturnsInHanded {} Tryz.checked os 6 .any (Rows.termValidSpec.pre6 enc Tryz.prog Tryz.f6 Rows.termValidRow.domain false) (Rows.termValidSpec.post enc Tryz.prog Tryz.f6 false true false false) := by
  refine returnsInHanded_of_calls (C := Tryz.checked) own started (by kernel_rfl)
    (ChangeSpec.witness6 (enc := enc) (C := Tryz.checked) false ⟨#[], #[.agg #[.slice none 0 0, .slice none 0 0], .slice none 0 0, .slice none 0 0, .agg #[.int .i64 0, .int .i64 0, .string .empty, .int .i64 0, .slice none 0 0, .slice none 0 0]], []⟩ 8 (by kernel_rfl) (by kernel_rfl) (by kernel_rfl) (by kernel_rfl)) ?_
  intro w tape i _ hsh _ hok hpre hholds
  obtain ⟨_, _, _, fn', hfn', _, _, _, _, hval⟩ := hok
  have e : fn' = Tryz.f6 := Option.some.inj (hfn'.symm.trans Tryz.func6)
  subst e
  obtain ⟨⟨ds, gs, before, hw, hc⟩, hz⟩ := hpre
  have hwt := hz.weights hw
  have hw' := DataW.Whole.of_heap (w' := w.forCall tape i) (by rfl) hw
  have contract : Calls Tryz.prog 6 i.args (w.forCall tape i) fun e W' => ∃ v, e = .returned v ∧ Rows.termValidSpec.post enc Tryz.prog Tryz.f6 false true false false (w.forCall tape i) i.args v W' := by
    clear hz
    generalize w.forCall tape i = W at *
    generalize i.args = args at *
    have hsh' : W.ShapedOpen Tryz.checked.prog := hsh
    refine row_true laidOut (by kernel_rfl) (tb := 4) (by kernel_rfl) Tryz.underlying4 rfl (fun l hl => by match l, hl with | [a0, a1, a2, a3], _ => rfl) hw' ?_
    obtain ⟨p, q, hA, hV, -⟩ := hw'
    obtain ⟨rfl, rfl⟩ := trodVars_none hV
    rw [show Tryz.f6.params.toList = [25, 48, 48, 41] from by kernel_rfl] at hA
    obtain ⟨v0, v1, v2, v3, d0, d1, d2, d3, p0, p1, p2, p3, rfl, rfl, rfl, h0, h1, h2, h3⟩ := trodAll_fourL hA
    obtain ⟨cs0, fu0, rfl, k0⟩ := trod_aggr Tryz.underlying25 (hval 0 _ _ rfl rfl) h0
    obtain ⟨g0, e0, ok0, L0, b0⟩ := reads_prog _ _ _ k0
    obtain rfl : cs0 = (AV.vals g0.cs).toArray := by rw [e0]
    have L0' := L0 (light_at hwt (j := 0) (by kernel_rfl) rfl)
    obtain ⟨fu1, k1⟩ := trod_slice Tryz.underlying48 (hval 1 _ _ rfl rfl) h1
    obtain ⟨hd1, l1, e1, ok1, L1, b1⟩ := reads_strs k1
    obtain rfl := List.cons.inj e1 |>.1
    have L1' := L1 (light_at hwt (j := 1) (by kernel_rfl) rfl)
    obtain ⟨fu2, k2⟩ := trod_slice Tryz.underlying48 (hval 2 _ _ rfl rfl) h2
    obtain ⟨hd2, l2, e2, ok2, L2, b2⟩ := reads_strs k2
    obtain rfl := List.cons.inj e2 |>.1
    have L2' := L2 (light_at hwt (j := 2) (by kernel_rfl) rfl)
    obtain ⟨cs3, fu3, rfl, k3⟩ := trod_aggr Tryz.underlying41 (hval 3 _ _ rfl rfl) h3
    obtain ⟨g3, e3, ok3, L3, b3⟩ := reads_term _ _ _ k3
    obtain rfl : cs3 = (AV.vals g3.cs).toArray := by rw [e3]
    have L3' := L3 (light_at hwt (j := 3) (by kernel_rfl) rfl)
    obtain ⟨m, hm⟩ := Tryz.laysM144.s1_3 W hsh
    exact calls_of_row (args := [g0.av, strsAV v1 l1, strsAV v2 l2, g3.av]) W hm ⟨ok0, ok1, ok2, ok3, trivial⟩ (termValid_calls g0 (pfit_of L0') v1 v2 l1 l2 L1' L2' g3 _ (gok_hp0 m))
  refine contract.mono fun e W' ⟨v, he, hp⟩ => ?_
  subst he
  exact ChangeSpec.post_blind hp

theorem termValid_holds : Rows.TermValidSaid := by
  refine OpenClaim.holds_of_wide 6 Tryz.f6 rfl rfl rfl rfl rfl rfl rfl ⟨rfl, rfl, rfl, rfl, rfl⟩ rfl rfl rfl rfl rfl (by kernel_rfl) Tryz.func6 (by kernel_rfl) (of_decide_eq_true (by kernel_rfl))
    (by unfold Func.isWrapper; rw [if_neg (by decide +kernel)]; exact ⟨rfl, rfl⟩) (fun os started H enc _ => termValid_lifted os started H enc)
#print axioms termValid_holds
end Go.Proofs.YtppoacgeiooppaaGreat
