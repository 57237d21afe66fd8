/- The row of DeclMore: the call returns true and leaves its arguments as they were, for every input. -/
import Derived.Test.YtfdlfcafcjhpmaaCD24
import Derived.Test.YtfdlfcafcjhpmaaCD21
set_option linter.unusedSimpArgs false
set_option linter.unusedVariables false
namespace Go.Proofs.Ytfdlfcafcjhpmaa
open Go.AL Go.ChangeShapes Go.WideShapes Go.ChangeAt Go.RowKit

set_option maxRecDepth 100000 in
theorem declMore_lifted (os : Os) (started : os.Started) (H : Type) (enc : TypeId × Value → H) :
    ReturnsInHanded {} Try.checked os 11 .any (Rows.declMoreSpec.pre6 enc Try.prog Try.f11 Rows.declMoreRow.domain false) (Rows.declMoreSpec.post enc Try.prog Try.f11 false true false false) := by
  refine returnsInHanded_of_calls (C := Try.checked) own started (by kernel_rfl)
    (ChangeSpec.witness6 (enc := enc) (C := Try.checked) false ⟨#[], #[.slice none 0 0, .slice none 0 0], []⟩ 8 (by kernel_rfl) (by kernel_rfl) (by kernel_rfl) (by kernel_rfl)) ?_
  intro w tape i _ hsh _ hok hpre hholds
  obtain ⟨_, _, _, fn', hfn', _, _, _, _, hval⟩ := hok
  have e : fn' = Try.f11 := Option.some.inj (hfn'.symm.trans Try.func11)
  subst e
  obtain ⟨⟨ds, gs, before, hw, hc⟩, hz⟩ := hpre
  have hwt := hz.weights hw
  have hw' := DataW.Whole.of_heap (w' := w.forCall tape i) (by rfl) hw
  have contract : Calls Try.prog 11 i.args (w.forCall tape i) fun e W' => ∃ v, e = .returned v ∧ Rows.declMoreSpec.post enc Try.prog Try.f11 false true false false (w.forCall tape i) i.args v W' := by
    clear hz
    generalize w.forCall tape i = W at *
    generalize i.args = args at *
    have hsh' : W.ShapedOpen Try.checked.prog := hsh
    refine row_true laidOut (by kernel_rfl) (tb := 4) (by kernel_rfl) Try.underlying4 rfl (fun l hl => by match l, hl with | [a0, a1], _ => rfl) hw' ?_
    obtain ⟨p, q, hA, hV, -⟩ := hw'
    obtain ⟨rfl, rfl⟩ := trodVars_none hV
    rw [show Try.f11.params.toList = [69, 69] from by kernel_rfl] at hA
    obtain ⟨v0, v1, d0, d1, p0, p1, rfl, rfl, rfl, h0, h1⟩ := trodAll_two hA
    obtain ⟨fu0, k0⟩ := trod_slice Try.underlying69 (hval 0 _ _ rfl rfl) h0
    obtain ⟨hd0, l0, e0, hl0, hL0⟩ := reads_decls k0
    obtain rfl := List.cons.inj e0 |>.1
    have hL0' := hL0 (light_at hwt (j := 0) (by kernel_rfl) rfl)
    obtain ⟨fu1, k1⟩ := trod_slice Try.underlying69 (hval 1 _ _ rfl rfl) h1
    obtain ⟨hd1, l1, e1, hl1, hL1⟩ := reads_decls k1
    obtain rfl := List.cons.inj e1 |>.1
    have hL1' := hL1 (light_at hwt (j := 1) (by kernel_rfl) rfl)
    obtain ⟨m, hm⟩ := Try.laysM144.s1_3 W hsh
    have hR : reachBytes = 140737488351232 := rfl
    exact calls_of_row (args := [declsAV v0 l0, declsAV v1 l1]) W hm ⟨hl0, hl1, trivial⟩ (declMore_calls v0 v1 l0 l1 (by have := hL1'.1; omega) _ (gok_hp0 m))
  refine contract.mono fun e W' ⟨v, he, hp⟩ => ?_
  subst he
  exact ChangeSpec.post_blind hp

theorem declMore_holds : Rows.DeclMoreSaid := by
  refine OpenClaim.holds_of_wide 11 Try.f11 rfl rfl rfl rfl rfl rfl rfl ⟨rfl, rfl, rfl, rfl, rfl⟩ rfl rfl rfl rfl rfl (by kernel_rfl) Try.func11 (by kernel_rfl) (of_decide_eq_true (by kernel_rfl))
    (by unfold Func.isWrapper; rw [if_neg (by decide +kernel)]; exact ⟨rfl, rfl⟩) (fun os started H enc _ => declMore_lifted os started H enc)
#print axioms declMore_holds
end Go.Proofs.Ytfdlfcafcjhpmaa
