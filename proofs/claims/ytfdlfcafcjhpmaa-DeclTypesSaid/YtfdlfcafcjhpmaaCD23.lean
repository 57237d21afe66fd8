/- The row of DeclTypes: the call returns true and leaves its arguments as they were, for every input. -/
import Derived.Test.YtfdlfcafcjhpmaaCD18
import Derived.Test.YtfdlfcafcjhpmaaCD21
set_option linter.unusedSimpArgs false
set_option linter.unusedVariables false
namespace Go.Proofs.Ytfdlfcafcjhpmaa
open Go.AL Go.ChangeShapes Go.WideShapes Go.ChangeAt Go.RowKit

set_option maxRecDepth 100000 in
theorem declTypes_lifted (os : Os) (started : os.Started) (H : Type) (enc : TypeId × Value → H) :
    ReturnsInHanded {} Try.checked os 9 .any (Rows.declTypesSpec.pre6 enc Try.prog Try.f9 Rows.declTypesRow.domain false) (Rows.declTypesSpec.post enc Try.prog Try.f9 false true false false) := by
  refine returnsInHanded_of_calls (C := Try.checked) own started (by kernel_rfl)
    (ChangeSpec.witness6 (enc := enc) (C := Try.checked) false ⟨#[], #[.slice none 0 0, .int .i64 0, .int .i64 0], []⟩ 8 (by kernel_rfl) (by kernel_rfl) (by kernel_rfl) (by kernel_rfl)) ?_
  intro w tape i _ hsh _ hok hpre hholds
  obtain ⟨_, _, _, fn', hfn', _, _, _, _, hval⟩ := hok
  have e : fn' = Try.f9 := Option.some.inj (hfn'.symm.trans Try.func9)
  subst e
  obtain ⟨⟨ds, gs, before, hw, hc⟩, hz⟩ := hpre
  have hwt := hz.weights hw
  have hw' := DataW.Whole.of_heap (w' := w.forCall tape i) (by rfl) hw
  have contract : Calls Try.prog 9 i.args (w.forCall tape i) fun e W' => ∃ v, e = .returned v ∧ Rows.declTypesSpec.post enc Try.prog Try.f9 false true false false (w.forCall tape i) i.args v W' := by
    clear hz
    generalize w.forCall tape i = W at *
    generalize i.args = args at *
    have hsh' : W.ShapedOpen Try.checked.prog := hsh
    refine row_true laidOut (by kernel_rfl) (tb := 4) (by kernel_rfl) Try.underlying4 rfl (fun l hl => by match l, hl with | [a0, a1, a2], _ => rfl) hw' ?_
    obtain ⟨p, q, hA, hV, -⟩ := hw'
    obtain ⟨rfl, rfl⟩ := trodVars_none hV
    rw [show Try.f9.params.toList = [69, 3, 3] from by kernel_rfl] at hA
    obtain ⟨v0, v1, v2, d0, d1, d2, p0, p1, p2, rfl, rfl, rfl, h0, h1, h2⟩ := trodAll_three hA
    obtain ⟨fu0, k0⟩ := trod_slice Try.underlying69 (hval 0 _ _ rfl rfl) h0
    obtain ⟨hd0, l0, e0, hl0, hL0⟩ := reads_decls k0
    obtain rfl := List.cons.inj e0 |>.1
    have hL0' := hL0 (light_at hwt (j := 0) (by kernel_rfl) rfl)
    obtain ⟨n1, rfl, rfl, rfl, w1⟩ := open_int Try.underlying3 (hval 1 3 v1 rfl rfl) h1
    obtain ⟨n2, rfl, rfl, rfl, w2⟩ := open_int Try.underlying3 (hval 2 3 v2 rfl rfl) h2
    obtain ⟨m, hm⟩ := Try.laysM144.s1_3 W hsh
    exact calls_of_row (args := [declsAV v0 l0, .v (.int .i64 n1), .v (.int .i64 n2)]) W hm ⟨hl0, trivial, trivial, trivial⟩ (declTypes_calls v0 l0 n1 n2 _ (gok_hp0 m))
  refine contract.mono fun e W' ⟨v, he, hp⟩ => ?_
  subst he
  exact ChangeSpec.post_blind hp

theorem declTypes_holds : Rows.DeclTypesSaid := by
  refine OpenClaim.holds_of_wide 9 Try.f9 rfl rfl rfl rfl rfl rfl rfl ⟨rfl, rfl, rfl, rfl, rfl⟩ rfl rfl rfl rfl rfl (by kernel_rfl) Try.func9 (by kernel_rfl) (of_decide_eq_true (by kernel_rfl))
    (by unfold Func.isWrapper; rw [if_neg (by decide +kernel)]; exact ⟨rfl, rfl⟩) (fun os started H enc _ => declTypes_lifted os started H enc)
#print axioms declTypes_holds
end Go.Proofs.Ytfdlfcafcjhpmaa
