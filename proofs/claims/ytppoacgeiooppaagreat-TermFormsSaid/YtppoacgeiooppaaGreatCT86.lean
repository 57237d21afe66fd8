/- The row of TermForms: the call returns true and leaves its arguments as they were, for every input. -/
import Derived.Test.YtppoacgeiooppaaGreatCT82
import Derived.Test.YtppoacgeiooppaaGreatCT51
set_option linter.unusedSimpArgs false
set_option linter.unusedVariables false
namespace Go.Proofs.YtppoacgeiooppaaGreat
open Go.AL Go.ChangeShapes Go.WideShapes Go.ChangeAt Go.RowKit

set_option maxRecDepth 100000 in
theorem termForms_lifted (os : Os) (started : os.Started) (H : Type) (enc : TypeId × Value → H) :
    ReturnsInHanded {} Tryz.checked os 5 .any (Rows.termFormsSpec.pre6 enc Tryz.prog Tryz.f5 Rows.termFormsRow.domain false) (Rows.termFormsSpec.post enc Tryz.prog Tryz.f5 false true false false) := by
  refine returnsInHanded_of_calls (C := Tryz.checked) own started (by kernel_rfl)
    (ChangeSpec.witness6 (enc := enc) (C := Tryz.checked) false ⟨#[], #[.agg #[.slice none 0 0, .slice none 0 0]], []⟩ 8 (by kernel_rfl) (by kernel_rfl) (by kernel_rfl) (by kernel_rfl)) ?_
  intro w tape i _ hsh _ hok hpre hholds
  obtain ⟨_, _, _, fn', hfn', _, _, _, _, hval⟩ := hok
  have e : fn' = Tryz.f5 := Option.some.inj (hfn'.symm.trans Tryz.func5)
  subst e
  obtain ⟨⟨ds, gs, before, hw, hc⟩, hz⟩ := hpre
  have hwt := hz.weights hw
  have hw' := DataW.Whole.of_heap (w' := w.forCall tape i) (by rfl) hw
  have contract : Calls Tryz.prog 5 i.args (w.forCall tape i) fun e W' => ∃ v, e = .returned v ∧ Rows.termFormsSpec.post enc Tryz.prog Tryz.f5 false true false false (w.forCall tape i) i.args v W' := by
    clear hz
    generalize w.forCall tape i = W at *
    generalize i.args = args at *
    have hsh' : W.ShapedOpen Tryz.checked.prog := hsh
    refine row_true laidOut (by kernel_rfl) (tb := 4) (by kernel_rfl) Tryz.underlying4 rfl (fun l hl => by match l, hl with | [a0], _ => rfl) hw' ?_
    obtain ⟨p, q, hA, hV, -⟩ := hw'
    obtain ⟨rfl, rfl⟩ := trodVars_none hV
    rw [show Tryz.f5.params.toList = [25] from by kernel_rfl] at hA
    obtain ⟨v0, d0, rfl, rfl, h0⟩ := trodAll_one hA
    obtain ⟨cs0, fu0, rfl, k0⟩ := trod_aggr Tryz.underlying25 (hval 0 _ _ rfl rfl) h0
    obtain ⟨g0, e0, ok0, L0, b0⟩ := reads_prog _ _ _ k0
    obtain rfl : cs0 = (AV.vals g0.cs).toArray := by rw [e0]
    have L0' := L0 (light_at hwt (j := 0) (by kernel_rfl) rfl)
    obtain ⟨m, hm⟩ := Tryz.laysM144.s1_3 W hsh
    exact calls_of_row (args := [g0.av]) W hm ⟨ok0, trivial⟩ (termForms_calls g0 (pfit_of L0') _ (gok_hp0 m))
  refine contract.mono fun e W' ⟨v, he, hp⟩ => ?_
  subst he
  exact ChangeSpec.post_blind hp

theorem termForms_holds : Rows.TermFormsSaid := by
  refine OpenClaim.holds_of_wide 5 Tryz.f5 rfl rfl rfl rfl rfl rfl rfl ⟨rfl, rfl, rfl, rfl, rfl⟩ rfl rfl rfl rfl rfl (by kernel_rfl) Tryz.func5 (by kernel_rfl) (of_decide_eq_true (by kernel_rfl))
    (by unfold Func.isWrapper; rw [if_neg (by decide +kernel)]; exact ⟨rfl, rfl⟩) (fun os started H enc _ => termForms_lifted os started H enc)
#print axioms termForms_holds
end Go.Proofs.YtppoacgeiooppaaGreat
